/- num, and the parts of slices that it calls: Grow, Concat, PutBytes, TakeBytes. -/
import Derived.Test.YtjcfhhepnjmchaaN1
namespace Go.Proofs.Ytjcfhhepnjmchaa
open Go.Tr
attribute [local irreducible] Go.Tr.AW Go.Tr.AOps Go.Tr.AL Go.Tr.AOp Go.Tr.ACalls
theorem zerosT_len {ti : TI} (n : Nat) (h : ti.tree.cells.length = ti.size) : (zerosT ti n).length = n * ti.size := by
  unfold zerosT; rw [List.flatMap_def, List.map_replicate, List.length_flatten]; simp [h]
theorem grow_nil (n : Int) (σ : St) (hn : 0 ≤ n ∧ n ≤ 4294967296) :
    ACalls Try.prog 55 [.nilsl, .int .i64 n] σ (fun r σ' => ∃ own', Fresh σ own' ∧ r = .sl 1 (some own') [] ∧ σ' = σ.sp own') := by
  refine acalls_mk hG Try.func55 rfl rfl rfl rfl rfl ?_
  repeat' (first
    | (refine al_cons rfl ?_; first
      | refine op_m (d := some _) hG rfl rfl rfl rfl ?_
      | refine op_d (d := some _) hG rfl rfl rfl rfl (fun h => ?_) (fun h => ?_) | refine op_e (d := some _) hG rfl rfl rfl rfl (fun h => ?_) (fun h => ?_) | refine op_ne (d := some _) hG rfl rfl rfl rfl (fun h => ?_) (fun h => ?_) | refine op_beq (d := some _) hG rfl rfl rfl rfl (fun h => ?_) (fun h => ?_)
      | refine op_rem (d := some _) hG rfl rfl rfl rfl rfl rfl (by omega) ?_ | refine op_w (d := some _) hG rfl rfl rfl rfl (by omega) ?_ | refine op_wu (d := some _) hG rfl rfl rfl rfl (by omega) ?_ | refine op_w16 (d := some _) hG rfl rfl rfl rfl (by omega) ?_ | refine op_w8 (d := some _) hG rfl rfl rfl rfl (by omega) ?_
      | refine op_q (d := some _) hG rfl rfl rfl ?_)
    | refine al_s (d := some _) rfl rfl rfl ?_ | (refine al_nil ?_; show AW _ _ _ _ _ _) | refine aw_seq ?_ | refine aw_regL ?_ | refine aw_if_t rfl ?_ | refine aw_if_f rfl ?_
    | (refine aw_skip ?_; show AW _ _ _ _ _ _) | refine aw_block ?_ | (refine aw_exit ?_; show AW _ _ _ _ _ _) | (refine aw_goto ?_; try dsimp only [thenA, inBlockA, jumpA, noGotoA]) | (refine aw_ret ?_; try dsimp only [thenA, inBlockA, jumpA, noGotoA]))
  · omega
  · refine al_cons rfl (op_append0 (d := some _) hG rfl rfl rfl rfl rfl rfl rfl rfl rfl rfl rfl (by omega) (fun b cap hc hb1 hb2 => ?_))
    repeat' (first
    | (refine al_cons rfl ?_; first
      | refine op_m (d := some _) hG rfl rfl rfl rfl ?_
      | refine op_d (d := some _) hG rfl rfl rfl rfl (fun h => ?_) (fun h => ?_) | refine op_e (d := some _) hG rfl rfl rfl rfl (fun h => ?_) (fun h => ?_) | refine op_ne (d := some _) hG rfl rfl rfl rfl (fun h => ?_) (fun h => ?_) | refine op_beq (d := some _) hG rfl rfl rfl rfl (fun h => ?_) (fun h => ?_)
      | refine op_rem (d := some _) hG rfl rfl rfl rfl rfl rfl (by omega) ?_ | refine op_w (d := some _) hG rfl rfl rfl rfl (by omega) ?_ | refine op_wu (d := some _) hG rfl rfl rfl rfl (by omega) ?_ | refine op_w16 (d := some _) hG rfl rfl rfl rfl (by omega) ?_ | refine op_w8 (d := some _) hG rfl rfl rfl rfl (by omega) ?_
      | refine op_q (d := some _) hG rfl rfl rfl ?_)
    | refine al_s (d := some _) rfl rfl rfl ?_ | (refine al_nil ?_; show AW _ _ _ _ _ _) | refine aw_seq ?_ | refine aw_regL ?_ | refine aw_if_t rfl ?_ | refine aw_if_f rfl ?_
    | (refine aw_skip ?_; show AW _ _ _ _ _ _) | refine aw_block ?_ | (refine aw_exit ?_; show AW _ _ _ _ _ _) | (refine aw_goto ?_; try dsimp only [thenA, inBlockA, jumpA, noGotoA]) | (refine aw_ret ?_; try dsimp only [thenA, inBlockA, jumpA, noGotoA]))
    refine al_cons rfl (op_slice_aref (d := some _) hG rfl rfl rfl rfl rfl rfl rfl rfl rfl rfl (by omega) ?_)
    repeat' (first
    | (refine al_cons rfl ?_; first
      | refine op_m (d := some _) hG rfl rfl rfl rfl ?_
      | refine op_d (d := some _) hG rfl rfl rfl rfl (fun h => ?_) (fun h => ?_) | refine op_e (d := some _) hG rfl rfl rfl rfl (fun h => ?_) (fun h => ?_) | refine op_ne (d := some _) hG rfl rfl rfl rfl (fun h => ?_) (fun h => ?_) | refine op_beq (d := some _) hG rfl rfl rfl rfl (fun h => ?_) (fun h => ?_)
      | refine op_rem (d := some _) hG rfl rfl rfl rfl rfl rfl (by omega) ?_ | refine op_w (d := some _) hG rfl rfl rfl rfl (by omega) ?_ | refine op_wu (d := some _) hG rfl rfl rfl rfl (by omega) ?_ | refine op_w16 (d := some _) hG rfl rfl rfl rfl (by omega) ?_ | refine op_w8 (d := some _) hG rfl rfl rfl rfl (by omega) ?_
      | refine op_q (d := some _) hG rfl rfl rfl ?_)
    | refine al_s (d := some _) rfl rfl rfl ?_ | (refine al_nil ?_; show AW _ _ _ _ _ _) | refine aw_seq ?_ | refine aw_regL ?_ | refine aw_if_t rfl ?_ | refine aw_if_f rfl ?_
    | (refine aw_skip ?_; show AW _ _ _ _ _ _) | refine aw_block ?_ | (refine aw_exit ?_; show AW _ _ _ _ _ _) | (refine aw_goto ?_; try dsimp only [thenA, inBlockA, jumpA, noGotoA]))
    refine aw_conv (a' := [(4, .sl 1 (some (b, 0, cap)) [])]) (σ' := σ.sp (b, 0, cap)) (fun w av hi hr => ?_) ?_
    · obtain ⟨h1, h2⟩ := aref_room (cap := cap) hb1 hb2 (by rw [zerosT_len _ rfl]; simp) w hi
      refine ⟨h1, h2, hr.size, hr.defers, fun i t ht => ?_⟩
      by_cases e : 4 = i
      · subst e
        obtain ⟨v, hv, r⟩ := hr.tmp 4 _ rfl
        injection ht with ht; subst ht
        exact ⟨v, hv, room_rel r (by simp)⟩
      · simp [Go.Tr.get, beqF e] at ht
    · exact aw_ret (aw_ret' _ rfl (Wk.refl _) ⟨_, .inr ⟨hb2, hb1⟩, rfl, rfl⟩)
  · refine aw_ret' _ rfl (Wk.nil0 1) ⟨(0, 0, 0), .inl rfl, rfl, rfl⟩

def bsT (b : List UInt8) : T := .sl 1 none (b.map bT)
def total (bs : List (List UInt8)) : Nat := (bs.map List.length).sum
theorem total_snoc (bs : List (List UInt8)) (b : List UInt8) : total (bs ++ [b]) = total bs + b.length := by simp [total]
theorem total_take_le (bs : List (List UInt8)) (i : Nat) : total (bs.take i) ≤ total bs := by
  have h : total bs = total (bs.take i) + total (bs.drop i) := by
    conv => lhs; rw [← List.take_append_drop i bs]
    simp only [total, List.map_append, List.sum_append]
  omega
theorem flatten_length (bs : List (List UInt8)) : bs.flatten.length = total bs := by simp [total, List.length_flatten]

structure CatX (bs : List (List UInt8)) where
  i : Nat
  hi : i ≤ bs.length
structure CatY (bs : List (List UInt8)) (σ : St) where
  i : Nat
  own : Nat × Nat × Nat
  hi : i ≤ bs.length
  hf : Fresh σ own

theorem concat_any (own) (bs : List (List UInt8)) (σ : St) (hb : total bs ≤ 4294967200) (hn : bs.length ≤ 4294967296) :
    ACalls Try.prog 47 [.sl 1 own (bs.map bsT)] σ (fun r σ' => ∃ own', Fresh σ own' ∧ r = .sl 1 (some own') (bs.flatten.map bT) ∧ σ' = σ.sp own') := by
  refine acalls_mk hG Try.func47 rfl rfl rfl rfl rfl ?_
  repeat' (first
    | (refine al_cons rfl ?_; first
      | refine op_m (d := some _) hG rfl rfl rfl rfl ?_
      | refine op_d (d := some _) hG rfl rfl rfl rfl (fun h => ?_) (fun h => ?_) | refine op_e (d := some _) hG rfl rfl rfl rfl (fun h => ?_) (fun h => ?_) | refine op_ne (d := some _) hG rfl rfl rfl rfl (fun h => ?_) (fun h => ?_) | refine op_beq (d := some _) hG rfl rfl rfl rfl (fun h => ?_) (fun h => ?_)
      | refine op_rem (d := some _) hG rfl rfl rfl rfl rfl rfl (by omega) ?_ | refine op_w (d := some _) hG rfl rfl rfl rfl (by omega) ?_ | refine op_wu (d := some _) hG rfl rfl rfl rfl (by omega) ?_ | refine op_w16 (d := some _) hG rfl rfl rfl rfl (by omega) ?_ | refine op_w8 (d := some _) hG rfl rfl rfl rfl (by omega) ?_
      | refine op_q (d := some _) hG rfl rfl rfl ?_)
    | refine al_s (d := some _) rfl rfl rfl ?_ | (refine al_nil ?_; show AW _ _ _ _ _ _) | refine aw_seq ?_ | refine aw_regL ?_ | refine aw_if_t rfl ?_ | refine aw_if_f rfl ?_
    | (refine aw_skip ?_; show AW _ _ _ _ _ _) | refine aw_block ?_ | (refine aw_exit ?_; show AW _ _ _ _ _ _) | (refine aw_goto ?_; try dsimp only [thenA, inBlockA, jumpA, noGotoA]) | (refine aw_ret ?_; try dsimp only [thenA, inBlockA, jumpA, noGotoA]))
  refine aw_loop (X := CatX bs) (fun x => [(0, .sl 1 own (bs.map bsT)), (9, .sl 1 own (bs.map bsT)), (10, .int .i64 bs.length), (11, .int .i64 x.i), (3, .int .i64 (total (bs.take x.i)))]) (fun x => σ) (fun x => bs.length - x.i) ⟨0, Nat.zero_le _⟩ ?_ rfl ?_
  · exact .cons rfl (.cons rfl (.consW rfl (.int (by simp)) (.consW rfl (.int rfl) (.consW rfl (.int (by simp [total])) (.nil _)))))
  rintro ⟨i, hi⟩
  dsimp only
  have hle := total_take_le bs i
  repeat' (first
    | (refine al_cons rfl ?_; first
      | refine op_m (d := some _) hG rfl rfl rfl rfl ?_
      | refine op_d (d := some _) hG rfl rfl rfl rfl (fun h => ?_) (fun h => ?_) | refine op_e (d := some _) hG rfl rfl rfl rfl (fun h => ?_) (fun h => ?_) | refine op_ne (d := some _) hG rfl rfl rfl rfl (fun h => ?_) (fun h => ?_) | refine op_beq (d := some _) hG rfl rfl rfl rfl (fun h => ?_) (fun h => ?_)
      | refine op_rem (d := some _) hG rfl rfl rfl rfl rfl rfl (by omega) ?_ | refine op_w (d := some _) hG rfl rfl rfl rfl (by omega) ?_ | refine op_wu (d := some _) hG rfl rfl rfl rfl (by omega) ?_ | refine op_w16 (d := some _) hG rfl rfl rfl rfl (by omega) ?_ | refine op_w8 (d := some _) hG rfl rfl rfl rfl (by omega) ?_
      | refine op_q (d := some _) hG rfl rfl rfl ?_)
    | refine al_s (d := some _) rfl rfl rfl ?_ | (refine al_nil ?_; show AW _ _ _ _ _ _) | refine aw_seq ?_ | refine aw_regL ?_ | refine aw_if_t rfl ?_ | refine aw_if_f rfl ?_
    | (refine aw_skip ?_; show AW _ _ _ _ _ _) | refine aw_block ?_ | (refine aw_exit ?_; show AW _ _ _ _ _ _) | (refine aw_goto ?_; try dsimp only [thenA, inBlockA, jumpA, noGotoA]) | (refine aw_ret ?_; try dsimp only [thenA, inBlockA, jumpA, noGotoA]))
  · have hib : i < bs.length := by omega
    have hget : (bs.map bsT)[i]? = some (bsT bs[i]) := by simp [hib]
    have htk : bs.take (i + 1) = bs.take i ++ [bs[i]] := by rw [List.take_succ_eq_append_getElem hib]
    have hle2 := total_take_le bs (i + 1)
    rw [htk, total_snoc] at hle2
    have hlm : (List.map bT bs[i]).length = bs[i].length := by simp
    refine al_cons rfl (op_idx (d := some _) hG rfl rfl rfl rfl rfl rfl rfl rfl rfl (by omega) hget ?_)
    repeat' (first
    | (refine al_cons rfl ?_; first
      | refine op_m (d := some _) hG rfl rfl rfl rfl ?_
      | refine op_d (d := some _) hG rfl rfl rfl rfl (fun h => ?_) (fun h => ?_) | refine op_e (d := some _) hG rfl rfl rfl rfl (fun h => ?_) (fun h => ?_) | refine op_ne (d := some _) hG rfl rfl rfl rfl (fun h => ?_) (fun h => ?_) | refine op_beq (d := some _) hG rfl rfl rfl rfl (fun h => ?_) (fun h => ?_)
      | refine op_rem (d := some _) hG rfl rfl rfl rfl rfl rfl (by omega) ?_ | refine op_w (d := some _) hG rfl rfl rfl rfl (by omega) ?_ | refine op_wu (d := some _) hG rfl rfl rfl rfl (by omega) ?_ | refine op_w16 (d := some _) hG rfl rfl rfl rfl (by omega) ?_ | refine op_w8 (d := some _) hG rfl rfl rfl rfl (by omega) ?_
      | refine op_q (d := some _) hG rfl rfl rfl ?_)
    | refine al_s (d := some _) rfl rfl rfl ?_ | (refine al_nil ?_; show AW _ _ _ _ _ _) | refine aw_seq ?_ | refine aw_regL ?_ | refine aw_if_t rfl ?_ | refine aw_if_f rfl ?_
    | (refine aw_skip ?_; show AW _ _ _ _ _ _) | refine aw_block ?_ | (refine aw_exit ?_; show AW _ _ _ _ _ _) | (refine aw_goto ?_; try dsimp only [thenA, inBlockA, jumpA, noGotoA]) | (refine aw_ret ?_; try dsimp only [thenA, inBlockA, jumpA, noGotoA]))
    · omega
    · refine al_nil ⟨⟨i + 1, by omega⟩, by dsimp only; omega, ?_, rfl⟩
      refine .cons rfl (.cons rfl (.cons rfl (.consW rfl (.int (by simp)) (.consW rfl (.int ?_) (.nil _)))))
      show _ = ((total (bs.take (i + 1)) : Nat) : Int)
      rw [htk, total_snoc]; simp
  · obtain rfl : i = bs.length := by omega
    rw [List.take_length] at *
    refine al_cons rfl (op_call (d := some _) rfl rfl rfl rfl rfl ?_)
    refine (grow_nil _ σ (by omega)).mono ?_
    rintro r σ' ⟨own1, hf1, rfl, rfl⟩
    repeat' (first
    | (refine al_cons rfl ?_; first
      | refine op_m (d := some _) hG rfl rfl rfl rfl ?_
      | refine op_d (d := some _) hG rfl rfl rfl rfl (fun h => ?_) (fun h => ?_) | refine op_e (d := some _) hG rfl rfl rfl rfl (fun h => ?_) (fun h => ?_) | refine op_ne (d := some _) hG rfl rfl rfl rfl (fun h => ?_) (fun h => ?_) | refine op_beq (d := some _) hG rfl rfl rfl rfl (fun h => ?_) (fun h => ?_)
      | refine op_rem (d := some _) hG rfl rfl rfl rfl rfl rfl (by omega) ?_ | refine op_w (d := some _) hG rfl rfl rfl rfl (by omega) ?_ | refine op_wu (d := some _) hG rfl rfl rfl rfl (by omega) ?_ | refine op_w16 (d := some _) hG rfl rfl rfl rfl (by omega) ?_ | refine op_w8 (d := some _) hG rfl rfl rfl rfl (by omega) ?_
      | refine op_q (d := some _) hG rfl rfl rfl ?_)
    | refine al_s (d := some _) rfl rfl rfl ?_ | (refine al_nil ?_; show AW _ _ _ _ _ _) | refine aw_seq ?_ | refine aw_regL ?_ | refine aw_if_t rfl ?_ | refine aw_if_f rfl ?_
    | (refine aw_skip ?_; show AW _ _ _ _ _ _) | refine aw_block ?_ | (refine aw_exit ?_; show AW _ _ _ _ _ _) | (refine aw_goto ?_; try dsimp only [thenA, inBlockA, jumpA, noGotoA]) | (refine aw_ret ?_; try dsimp only [thenA, inBlockA, jumpA, noGotoA]))
    refine aw_loop (X := CatY bs σ) (fun x => [(25, .sl 1 own (bs.map bsT)), (26, .int .i64 bs.length), (27, .int .i64 x.i), (6, .sl 1 (some x.own) ((bs.take x.i).flatten.map bT))]) (fun x => σ.sp x.own) (fun x => bs.length - x.i) ⟨0, own1, Nat.zero_le _, hf1⟩ ?_ rfl ?_
    · exact .cons rfl (.consW rfl (.int (by simp)) (.consW rfl (.int rfl) (.consW rfl (.eq (by simp)) (.nil _))))
    rintro ⟨i, own2, hi, hf2⟩
    dsimp only
    have hle := total_take_le bs i
    repeat' (first
    | (refine al_cons rfl ?_; first
      | refine op_m (d := some _) hG rfl rfl rfl rfl ?_
      | refine op_d (d := some _) hG rfl rfl rfl rfl (fun h => ?_) (fun h => ?_) | refine op_e (d := some _) hG rfl rfl rfl rfl (fun h => ?_) (fun h => ?_) | refine op_ne (d := some _) hG rfl rfl rfl rfl (fun h => ?_) (fun h => ?_) | refine op_beq (d := some _) hG rfl rfl rfl rfl (fun h => ?_) (fun h => ?_)
      | refine op_rem (d := some _) hG rfl rfl rfl rfl rfl rfl (by omega) ?_ | refine op_w (d := some _) hG rfl rfl rfl rfl (by omega) ?_ | refine op_wu (d := some _) hG rfl rfl rfl rfl (by omega) ?_ | refine op_w16 (d := some _) hG rfl rfl rfl rfl (by omega) ?_ | refine op_w8 (d := some _) hG rfl rfl rfl rfl (by omega) ?_
      | refine op_q (d := some _) hG rfl rfl rfl ?_)
    | refine al_s (d := some _) rfl rfl rfl ?_ | (refine al_nil ?_; show AW _ _ _ _ _ _) | refine aw_seq ?_ | refine aw_regL ?_ | refine aw_if_t rfl ?_ | refine aw_if_f rfl ?_
    | (refine aw_skip ?_; show AW _ _ _ _ _ _) | refine aw_block ?_ | (refine aw_exit ?_; show AW _ _ _ _ _ _) | (refine aw_goto ?_; try dsimp only [thenA, inBlockA, jumpA, noGotoA]) | (refine aw_ret ?_; try dsimp only [thenA, inBlockA, jumpA, noGotoA]))
    · have hib : i < bs.length := by omega
      have hget : (bs.map bsT)[i]? = some (bsT bs[i]) := by simp [hib]
      have htk : bs.take (i + 1) = bs.take i ++ [bs[i]] := by rw [List.take_succ_eq_append_getElem hib]
      have hle2 := total_take_le bs (i + 1)
      rw [htk, total_snoc] at hle2
      refine al_cons rfl (op_idx (d := some _) hG rfl rfl rfl rfl rfl rfl rfl rfl rfl (by omega) hget ?_)
      repeat' (first
    | (refine al_cons rfl ?_; first
      | refine op_m (d := some _) hG rfl rfl rfl rfl ?_
      | refine op_d (d := some _) hG rfl rfl rfl rfl (fun h => ?_) (fun h => ?_) | refine op_e (d := some _) hG rfl rfl rfl rfl (fun h => ?_) (fun h => ?_) | refine op_ne (d := some _) hG rfl rfl rfl rfl (fun h => ?_) (fun h => ?_) | refine op_beq (d := some _) hG rfl rfl rfl rfl (fun h => ?_) (fun h => ?_)
      | refine op_rem (d := some _) hG rfl rfl rfl rfl rfl rfl (by omega) ?_ | refine op_w (d := some _) hG rfl rfl rfl rfl (by omega) ?_ | refine op_wu (d := some _) hG rfl rfl rfl rfl (by omega) ?_ | refine op_w16 (d := some _) hG rfl rfl rfl rfl (by omega) ?_ | refine op_w8 (d := some _) hG rfl rfl rfl rfl (by omega) ?_
      | refine op_q (d := some _) hG rfl rfl rfl ?_)
    | refine al_s (d := some _) rfl rfl rfl ?_ | (refine al_nil ?_; show AW _ _ _ _ _ _) | refine aw_seq ?_ | refine aw_regL ?_ | refine aw_if_t rfl ?_ | refine aw_if_f rfl ?_
    | (refine aw_skip ?_; show AW _ _ _ _ _ _) | refine aw_block ?_ | (refine aw_exit ?_; show AW _ _ _ _ _ _) | (refine aw_goto ?_; try dsimp only [thenA, inBlockA, jumpA, noGotoA]) | (refine aw_ret ?_; try dsimp only [thenA, inBlockA, jumpA, noGotoA]))
      refine al_cons rfl (op_append (d := some _) hG (σ0 := σ) rfl rfl rfl rfl rfl ⟨_, rfl⟩ rfl rfl rfl rfl rfl hf2 (bT_scal _) ?_ rfl rfl (fun own' hf' => ?_))
      · have := flatten_length (bs.take i)
        rw [List.length_map, List.length_map, this]; omega
      repeat' (first
    | (refine al_cons rfl ?_; first
      | refine op_m (d := some _) hG rfl rfl rfl rfl ?_
      | refine op_d (d := some _) hG rfl rfl rfl rfl (fun h => ?_) (fun h => ?_) | refine op_e (d := some _) hG rfl rfl rfl rfl (fun h => ?_) (fun h => ?_) | refine op_ne (d := some _) hG rfl rfl rfl rfl (fun h => ?_) (fun h => ?_) | refine op_beq (d := some _) hG rfl rfl rfl rfl (fun h => ?_) (fun h => ?_)
      | refine op_rem (d := some _) hG rfl rfl rfl rfl rfl rfl (by omega) ?_ | refine op_w (d := some _) hG rfl rfl rfl rfl (by omega) ?_ | refine op_wu (d := some _) hG rfl rfl rfl rfl (by omega) ?_ | refine op_w16 (d := some _) hG rfl rfl rfl rfl (by omega) ?_ | refine op_w8 (d := some _) hG rfl rfl rfl rfl (by omega) ?_
      | refine op_q (d := some _) hG rfl rfl rfl ?_)
    | refine al_s (d := some _) rfl rfl rfl ?_ | (refine al_nil ?_; show AW _ _ _ _ _ _) | refine aw_seq ?_ | refine aw_regL ?_ | refine aw_if_t rfl ?_ | refine aw_if_f rfl ?_
    | (refine aw_skip ?_; show AW _ _ _ _ _ _) | refine aw_block ?_ | (refine aw_exit ?_; show AW _ _ _ _ _ _) | (refine aw_goto ?_; try dsimp only [thenA, inBlockA, jumpA, noGotoA]) | (refine aw_ret ?_; try dsimp only [thenA, inBlockA, jumpA, noGotoA]))
      refine al_nil ⟨⟨i + 1, own', by omega, hf'⟩, by dsimp only; omega, ?_, rfl⟩
      refine .cons rfl (.cons rfl (.consW rfl (.int (by simp)) (.consW rfl (.eq ?_) (.nil _))))
      show T.sl 1 _ ((bs.take i).flatten.map bT ++ bs[i].map bT) = .sl 1 _ ((bs.take (i + 1)).flatten.map bT)
      rw [htk, List.flatten_append, List.map_append]; simp only [List.flatten_cons, List.flatten_nil, List.append_nil]
    · obtain rfl : i = bs.length := by omega
      rw [List.take_length] at *
      refine aw_ret' _ rfl (Wk.refl _) ⟨own2, hf2, rfl, rfl⟩

theorem num_PutBytes (o1 o2) (b s : List UInt8) (σ : St) (hl : b.length ≤ 4294880000) (hs : s.length ≤ 65535) :
    ACalls Try.prog 33 [.sl 1 o1 (b.map bT), .sl 1 o2 (s.map bT)] σ (fun r σ' => ∃ own', Fresh σ own' ∧ r = .sl 1 (some own') ((b ++ be s.length 2 ++ s).map bT) ∧ σ' = σ.sp own') := by
  refine acalls_mk hG Try.func33 rfl rfl rfl rfl rfl ?_
  have hlm : (List.map bT s).length = s.length := by simp
  repeat' (first
    | (refine al_cons rfl ?_; first
      | refine op_m (d := some _) hG rfl rfl rfl rfl ?_
      | refine op_d (d := some _) hG rfl rfl rfl rfl (fun h => ?_) (fun h => ?_) | refine op_e (d := some _) hG rfl rfl rfl rfl (fun h => ?_) (fun h => ?_) | refine op_ne (d := some _) hG rfl rfl rfl rfl (fun h => ?_) (fun h => ?_) | refine op_beq (d := some _) hG rfl rfl rfl rfl (fun h => ?_) (fun h => ?_)
      | refine op_rem (d := some _) hG rfl rfl rfl rfl rfl rfl (by omega) ?_ | refine op_w (d := some _) hG rfl rfl rfl rfl (by omega) ?_ | refine op_wu (d := some _) hG rfl rfl rfl rfl (by omega) ?_ | refine op_w16 (d := some _) hG rfl rfl rfl rfl (by omega) ?_ | refine op_w8 (d := some _) hG rfl rfl rfl rfl (by omega) ?_
      | refine op_q (d := some _) hG rfl rfl rfl ?_)
    | refine al_s (d := some _) rfl rfl rfl ?_ | (refine al_nil ?_; show AW _ _ _ _ _ _) | refine aw_seq ?_ | refine aw_regL ?_ | refine aw_if_t rfl ?_ | refine aw_if_f rfl ?_
    | (refine aw_skip ?_; show AW _ _ _ _ _ _) | refine aw_block ?_ | (refine aw_exit ?_; show AW _ _ _ _ _ _) | (refine aw_goto ?_; try dsimp only [thenA, inBlockA, jumpA, noGotoA]) | (refine aw_ret ?_; try dsimp only [thenA, inBlockA, jumpA, noGotoA]))
  refine al_cons rfl (op_call (d := some _) rfl rfl rfl rfl rfl ?_)
  rw [hlm]
  refine (num_Put o1 b s.length 2 σ (by omega)).drop.pure ?_
  repeat' (first
    | (refine al_cons rfl ?_; first
      | refine op_m (d := some _) hG rfl rfl rfl rfl ?_
      | refine op_d (d := some _) hG rfl rfl rfl rfl (fun h => ?_) (fun h => ?_) | refine op_e (d := some _) hG rfl rfl rfl rfl (fun h => ?_) (fun h => ?_) | refine op_ne (d := some _) hG rfl rfl rfl rfl (fun h => ?_) (fun h => ?_) | refine op_beq (d := some _) hG rfl rfl rfl rfl (fun h => ?_) (fun h => ?_)
      | refine op_rem (d := some _) hG rfl rfl rfl rfl rfl rfl (by omega) ?_ | refine op_w (d := some _) hG rfl rfl rfl rfl (by omega) ?_ | refine op_wu (d := some _) hG rfl rfl rfl rfl (by omega) ?_ | refine op_w16 (d := some _) hG rfl rfl rfl rfl (by omega) ?_ | refine op_w8 (d := some _) hG rfl rfl rfl rfl (by omega) ?_
      | refine op_q (d := some _) hG rfl rfl rfl ?_)
    | refine al_s (d := some _) rfl rfl rfl ?_ | (refine al_nil ?_; show AW _ _ _ _ _ _) | refine aw_seq ?_ | refine aw_regL ?_ | refine aw_if_t rfl ?_ | refine aw_if_f rfl ?_
    | (refine aw_skip ?_; show AW _ _ _ _ _ _) | refine aw_block ?_ | (refine aw_exit ?_; show AW _ _ _ _ _ _) | (refine aw_goto ?_; try dsimp only [thenA, inBlockA, jumpA, noGotoA]) | (refine aw_ret ?_; try dsimp only [thenA, inBlockA, jumpA, noGotoA]))
  refine al_cons rfl (op_mkslice (d := some _) hG rfl rfl rfl rfl rfl rfl rfl rfl ?_)
  repeat' (first
    | (refine al_cons rfl ?_; first
      | refine op_m (d := some _) hG rfl rfl rfl rfl ?_
      | refine op_d (d := some _) hG rfl rfl rfl rfl (fun h => ?_) (fun h => ?_) | refine op_e (d := some _) hG rfl rfl rfl rfl (fun h => ?_) (fun h => ?_) | refine op_ne (d := some _) hG rfl rfl rfl rfl (fun h => ?_) (fun h => ?_) | refine op_beq (d := some _) hG rfl rfl rfl rfl (fun h => ?_) (fun h => ?_)
      | refine op_rem (d := some _) hG rfl rfl rfl rfl rfl rfl (by omega) ?_ | refine op_w (d := some _) hG rfl rfl rfl rfl (by omega) ?_ | refine op_wu (d := some _) hG rfl rfl rfl rfl (by omega) ?_ | refine op_w16 (d := some _) hG rfl rfl rfl rfl (by omega) ?_ | refine op_w8 (d := some _) hG rfl rfl rfl rfl (by omega) ?_
      | refine op_q (d := some _) hG rfl rfl rfl ?_)
    | refine al_s (d := some _) rfl rfl rfl ?_ | (refine al_nil ?_; show AW _ _ _ _ _ _) | refine aw_seq ?_ | refine aw_regL ?_ | refine aw_if_t rfl ?_ | refine aw_if_f rfl ?_
    | (refine aw_skip ?_; show AW _ _ _ _ _ _) | refine aw_block ?_ | (refine aw_exit ?_; show AW _ _ _ _ _ _) | (refine aw_goto ?_; try dsimp only [thenA, inBlockA, jumpA, noGotoA]) | (refine aw_ret ?_; try dsimp only [thenA, inBlockA, jumpA, noGotoA]))
  refine al_cons rfl (op_call (d := some _) rfl rfl rfl rfl rfl ?_)
  refine ((concat_any (some (0, 0, 0)) [b ++ putN s.length 2, s] σ (by simp [total, putN, be_length]; omega) (by simp)).weakL (us := [.sl 1 (some (0, 0, 0)) ([b ++ putN s.length 2, s].map bsT)]) (wk1 (.list (by rfl) (fun i x y hx hy => ?_)))).owned (fun own' hf' => ?_)
  · match i with
    | 0 => simp at hx hy; subst hx; subst hy; exact ⟨rfl, rfl, .eq (by simp [bsT])⟩
    | 1 => simp at hx hy; subst hx; subst hy; exact ⟨rfl, rfl, Wk.own _ _ _⟩
    | i + 2 => simp at hx
  repeat' (first
    | (refine al_cons rfl ?_; first
      | refine op_m (d := some _) hG rfl rfl rfl rfl ?_
      | refine op_d (d := some _) hG rfl rfl rfl rfl (fun h => ?_) (fun h => ?_) | refine op_e (d := some _) hG rfl rfl rfl rfl (fun h => ?_) (fun h => ?_) | refine op_ne (d := some _) hG rfl rfl rfl rfl (fun h => ?_) (fun h => ?_) | refine op_beq (d := some _) hG rfl rfl rfl rfl (fun h => ?_) (fun h => ?_)
      | refine op_rem (d := some _) hG rfl rfl rfl rfl rfl rfl (by omega) ?_ | refine op_w (d := some _) hG rfl rfl rfl rfl (by omega) ?_ | refine op_wu (d := some _) hG rfl rfl rfl rfl (by omega) ?_ | refine op_w16 (d := some _) hG rfl rfl rfl rfl (by omega) ?_ | refine op_w8 (d := some _) hG rfl rfl rfl rfl (by omega) ?_
      | refine op_q (d := some _) hG rfl rfl rfl ?_)
    | refine al_s (d := some _) rfl rfl rfl ?_ | (refine al_nil ?_; show AW _ _ _ _ _ _) | refine aw_seq ?_ | refine aw_regL ?_ | refine aw_if_t rfl ?_ | refine aw_if_f rfl ?_
    | (refine aw_skip ?_; show AW _ _ _ _ _ _) | refine aw_block ?_ | (refine aw_exit ?_; show AW _ _ _ _ _ _) | (refine aw_goto ?_; try dsimp only [thenA, inBlockA, jumpA, noGotoA]) | (refine aw_ret ?_; try dsimp only [thenA, inBlockA, jumpA, noGotoA]))
  refine aw_ret' _ rfl (Wk.refl _) ⟨own', hf', ?_, rfl⟩
  simp [putN]

def takeBE (b : List UInt8) : List UInt8 × Nat × Int :=
  if (b.length : Int) < 2 then ([], 0, 3) else
  if (b.length : Int) - 2 < beV (b.take 2) then ([], 0, 3) else (((b.take (2 + beV (b.take 2))).drop 2), 2 + beV (b.take 2), 0)

theorem num_TakeBytes (own) (b : List UInt8) (σ : St) (hl : b.length ≤ 140737488351232) :
    ACalls Try.prog 31 [.sl 1 own (b.map bT)] σ (fun r σ' => r = .tup [.sl 1 none ((takeBE b).1.map bT), .int .i64 (takeBE b).2.1, .int .i64 (takeBE b).2.2] ∧ σ' = σ) := by
  refine acalls_mk hG Try.func31 rfl rfl rfl rfl rfl ?_
  have hlm : (List.map bT b).length = b.length := by simp
  repeat' (first
    | (refine al_cons rfl ?_; first
      | refine op_m (d := some _) hG rfl rfl rfl rfl ?_
      | refine op_d (d := some _) hG rfl rfl rfl rfl (fun h => ?_) (fun h => ?_) | refine op_e (d := some _) hG rfl rfl rfl rfl (fun h => ?_) (fun h => ?_) | refine op_ne (d := some _) hG rfl rfl rfl rfl (fun h => ?_) (fun h => ?_) | refine op_beq (d := some _) hG rfl rfl rfl rfl (fun h => ?_) (fun h => ?_)
      | refine op_rem (d := some _) hG rfl rfl rfl rfl rfl rfl (by omega) ?_ | refine op_w (d := some _) hG rfl rfl rfl rfl (by omega) ?_ | refine op_wu (d := some _) hG rfl rfl rfl rfl (by omega) ?_ | refine op_w16 (d := some _) hG rfl rfl rfl rfl (by omega) ?_ | refine op_w8 (d := some _) hG rfl rfl rfl rfl (by omega) ?_
      | refine op_q (d := some _) hG rfl rfl rfl ?_)
    | refine al_s (d := some _) rfl rfl rfl ?_ | (refine al_nil ?_; show AW _ _ _ _ _ _) | refine aw_seq ?_ | refine aw_regL ?_ | refine aw_if_t rfl ?_ | refine aw_if_f rfl ?_
    | (refine aw_skip ?_; show AW _ _ _ _ _ _) | refine aw_block ?_ | (refine aw_exit ?_; show AW _ _ _ _ _ _) | (refine aw_goto ?_; try dsimp only [thenA, inBlockA, jumpA, noGotoA]) | (refine aw_ret ?_; try dsimp only [thenA, inBlockA, jumpA, noGotoA]))
  refine al_cons rfl (op_call (d := some _) rfl rfl rfl rfl rfl ?_)
  refine (num_Take own b 2 σ).pure ?_
  by_cases h2 : (b.length : Int) < 2
  · have ht : takeE b 2 = (0, 3) := by rw [takeE, if_neg (by omega), if_pos h2]
    have hr : takeBE b = ([], 0, 3) := by rw [takeBE, if_pos h2]
    rw [ht, hr]
    dsimp only
    repeat' (first
    | (refine al_cons rfl ?_; first
      | refine op_m (d := some _) hG rfl rfl rfl rfl ?_
      | refine op_d (d := some _) hG rfl rfl rfl rfl (fun h => ?_) (fun h => ?_) | refine op_e (d := some _) hG rfl rfl rfl rfl (fun h => ?_) (fun h => ?_) | refine op_ne (d := some _) hG rfl rfl rfl rfl (fun h => ?_) (fun h => ?_) | refine op_beq (d := some _) hG rfl rfl rfl rfl (fun h => ?_) (fun h => ?_)
      | refine op_rem (d := some _) hG rfl rfl rfl rfl rfl rfl (by omega) ?_ | refine op_w (d := some _) hG rfl rfl rfl rfl (by omega) ?_ | refine op_wu (d := some _) hG rfl rfl rfl rfl (by omega) ?_ | refine op_w16 (d := some _) hG rfl rfl rfl rfl (by omega) ?_ | refine op_w8 (d := some _) hG rfl rfl rfl rfl (by omega) ?_
      | refine op_q (d := some _) hG rfl rfl rfl ?_)
    | refine al_s (d := some _) rfl rfl rfl ?_ | (refine al_nil ?_; show AW _ _ _ _ _ _) | refine aw_seq ?_ | refine aw_regL ?_ | refine aw_if_t rfl ?_ | refine aw_if_f rfl ?_
    | (refine aw_skip ?_; show AW _ _ _ _ _ _) | refine aw_block ?_ | (refine aw_exit ?_; show AW _ _ _ _ _ _) | (refine aw_goto ?_; try dsimp only [thenA, inBlockA, jumpA, noGotoA]) | (refine aw_ret ?_; try dsimp only [thenA, inBlockA, jumpA, noGotoA]))
    · exact aw_ret' (.tup [.sl 1 none [], .int .i64 0, .int .i64 3]) rfl (Wk.tupL (wk3 (.nil 1) (.refl _) (.refl _))) ⟨rfl, rfl⟩
    · omega
    · omega
  · have ht : takeE b 2 = (beV (b.take 2), 0) := by rw [takeE, if_neg (by omega), if_neg h2]; rfl
    have hv : beV (b.take 2) < 65536 := by have := beV_lt 2 (b.take 2) (by simp; omega); simpa using this
    rw [ht]
    dsimp only
    repeat' (first
    | (refine al_cons rfl ?_; first
      | refine op_m (d := some _) hG rfl rfl rfl rfl ?_
      | refine op_d (d := some _) hG rfl rfl rfl rfl (fun h => ?_) (fun h => ?_) | refine op_e (d := some _) hG rfl rfl rfl rfl (fun h => ?_) (fun h => ?_) | refine op_ne (d := some _) hG rfl rfl rfl rfl (fun h => ?_) (fun h => ?_) | refine op_beq (d := some _) hG rfl rfl rfl rfl (fun h => ?_) (fun h => ?_)
      | refine op_rem (d := some _) hG rfl rfl rfl rfl rfl rfl (by omega) ?_ | refine op_w (d := some _) hG rfl rfl rfl rfl (by omega) ?_ | refine op_wu (d := some _) hG rfl rfl rfl rfl (by omega) ?_ | refine op_w16 (d := some _) hG rfl rfl rfl rfl (by omega) ?_ | refine op_w8 (d := some _) hG rfl rfl rfl rfl (by omega) ?_
      | refine op_q (d := some _) hG rfl rfl rfl ?_)
    | refine al_s (d := some _) rfl rfl rfl ?_ | (refine al_nil ?_; show AW _ _ _ _ _ _) | refine aw_seq ?_ | refine aw_regL ?_ | refine aw_if_t rfl ?_ | refine aw_if_f rfl ?_
    | (refine aw_skip ?_; show AW _ _ _ _ _ _) | refine aw_block ?_ | (refine aw_exit ?_; show AW _ _ _ _ _ _) | (refine aw_goto ?_; try dsimp only [thenA, inBlockA, jumpA, noGotoA]) | (refine aw_ret ?_; try dsimp only [thenA, inBlockA, jumpA, noGotoA]))
    · omega
    · have hr : takeBE b = ([], 0, 3) := by rw [takeBE, if_neg h2, if_pos (by omega)]
      rw [hr]
      exact aw_ret' (.tup [.sl 1 none [], .int .i64 0, .int .i64 3]) rfl (Wk.tupL (wk3 (.nil 1) (.refl _) (.refl _))) ⟨rfl, rfl⟩
    · refine al_cons rfl (op_slice (d := some _) hG rfl rfl rfl rfl rfl rfl rfl rfl rfl rfl (by omega) ?_)
      repeat' (first
    | (refine al_cons rfl ?_; first
      | refine op_m (d := some _) hG rfl rfl rfl rfl ?_
      | refine op_d (d := some _) hG rfl rfl rfl rfl (fun h => ?_) (fun h => ?_) | refine op_e (d := some _) hG rfl rfl rfl rfl (fun h => ?_) (fun h => ?_) | refine op_ne (d := some _) hG rfl rfl rfl rfl (fun h => ?_) (fun h => ?_) | refine op_beq (d := some _) hG rfl rfl rfl rfl (fun h => ?_) (fun h => ?_)
      | refine op_rem (d := some _) hG rfl rfl rfl rfl rfl rfl (by omega) ?_ | refine op_w (d := some _) hG rfl rfl rfl rfl (by omega) ?_ | refine op_wu (d := some _) hG rfl rfl rfl rfl (by omega) ?_ | refine op_w16 (d := some _) hG rfl rfl rfl rfl (by omega) ?_ | refine op_w8 (d := some _) hG rfl rfl rfl rfl (by omega) ?_
      | refine op_q (d := some _) hG rfl rfl rfl ?_)
    | refine al_s (d := some _) rfl rfl rfl ?_ | (refine al_nil ?_; show AW _ _ _ _ _ _) | refine aw_seq ?_ | refine aw_regL ?_ | refine aw_if_t rfl ?_ | refine aw_if_f rfl ?_
    | (refine aw_skip ?_; show AW _ _ _ _ _ _) | refine aw_block ?_ | (refine aw_exit ?_; show AW _ _ _ _ _ _) | (refine aw_goto ?_; try dsimp only [thenA, inBlockA, jumpA, noGotoA]) | (refine aw_ret ?_; try dsimp only [thenA, inBlockA, jumpA, noGotoA]))
      refine al_cons rfl (op_call (d := some _) rfl rfl rfl rfl rfl ?_)
      have hcut : ((b.map bT).take (2 + (beV (b.take 2) : Int)).toNat).drop (2 : Int).toNat = ((b.take (2 + beV (b.take 2))).drop 2).map bT := by
        rw [show (2 + (beV (b.take 2) : Int)).toNat = 2 + beV (b.take 2) by omega, ← List.map_take, ← List.map_drop]; rfl
      rw [hcut]
      refine (clone_any _ (((b.take (2 + beV (b.take 2))).drop 2).map bT) σ (bT_scal _) (by simp; omega)).drop.pure ?_
      repeat' (first
    | (refine al_cons rfl ?_; first
      | refine op_m (d := some _) hG rfl rfl rfl rfl ?_
      | refine op_d (d := some _) hG rfl rfl rfl rfl (fun h => ?_) (fun h => ?_) | refine op_e (d := some _) hG rfl rfl rfl rfl (fun h => ?_) (fun h => ?_) | refine op_ne (d := some _) hG rfl rfl rfl rfl (fun h => ?_) (fun h => ?_) | refine op_beq (d := some _) hG rfl rfl rfl rfl (fun h => ?_) (fun h => ?_)
      | refine op_rem (d := some _) hG rfl rfl rfl rfl rfl rfl (by omega) ?_ | refine op_w (d := some _) hG rfl rfl rfl rfl (by omega) ?_ | refine op_wu (d := some _) hG rfl rfl rfl rfl (by omega) ?_ | refine op_w16 (d := some _) hG rfl rfl rfl rfl (by omega) ?_ | refine op_w8 (d := some _) hG rfl rfl rfl rfl (by omega) ?_
      | refine op_q (d := some _) hG rfl rfl rfl ?_)
    | refine al_s (d := some _) rfl rfl rfl ?_ | (refine al_nil ?_; show AW _ _ _ _ _ _) | refine aw_seq ?_ | refine aw_regL ?_ | refine aw_if_t rfl ?_ | refine aw_if_f rfl ?_
    | (refine aw_skip ?_; show AW _ _ _ _ _ _) | refine aw_block ?_ | (refine aw_exit ?_; show AW _ _ _ _ _ _) | (refine aw_goto ?_; try dsimp only [thenA, inBlockA, jumpA, noGotoA]) | (refine aw_ret ?_; try dsimp only [thenA, inBlockA, jumpA, noGotoA]))
      have hr : takeBE b = (((b.take (2 + beV (b.take 2))).drop 2), 2 + beV (b.take 2), 0) := by rw [takeBE, if_neg h2, if_neg (by omega)]
      refine aw_ret' _ rfl (Wk.refl _) ⟨?_, rfl⟩
      rw [hr]
      simp
      rfl
end Go.Proofs.Ytjcfhhepnjmchaa
