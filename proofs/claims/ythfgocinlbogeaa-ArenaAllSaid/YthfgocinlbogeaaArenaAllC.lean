/- Part of the proof of the law ArenaAll: the texts TsZ, RT, MU, SA, UB, PC, TsTab, S1, UC, UI, TsXA, TsXM, TsXB, TsXC, UJ, UK. No conditions. -/
import Derived.Test.YthfgocinlbogeaaArenaAllB
import Derived.KernelRfl
import Derived.Sort.Defs
import Derived.Test.YthfgocinlbogeaaProg
import Derived.Sort.Lot0
import Derived.Sort.LotD1
import Derived.Sort.LotD4
import Derived.MapKept
import Derived.Sort.LotD5
set_option linter.unusedSimpArgs false
set_option linter.unusedVariables false
namespace Go.Ts
set_option linter.unusedVariables false
section
variable {P : Program} {N : Nat} {ops : Array Oper} {Q : Exit → Env → St → Prop} {k : Nat} {o : Oper} {os : List Oper} {a : Env} {σ : St} {c : Code} {ty : TypeId} {pos : String} {af : Array Edge} {gd : Option (Nat × Bool)} {R : Prop} {eff is : List Nat} {F : St → Prop} {QE : Env → Prop} {n : Nat} {fin : Env → St → Prop} {A E : Env}
theorem sd {p : Prop} (h : p := by first | assumption | omega | exact Bd _ _ | exact bytesT_s _ | exact catsT_map _ _ | exact catsT_c _ | rfl | (simp; omega)) : p := h
theorem so0 (r : R) (h : R → AL P N ops Q k os a σ := by
  intro r
  first
  | (refine Ac Y ?_; first
    | (show AOp _ _ ⟨_, .move _, _, _, _, _⟩ _ _ _; refine r_move hG Y Y r)
    | (show AOp _ _ ⟨_, .assign _, _, _, _, _⟩ _ _ _; refine r_asg hG Y Y r)
    | (show AOp _ _ ⟨_, .call ⟨.builtin .len, _, _⟩, _, _, _, _⟩ _ _ _; first | refine r_lenm hG Y Y Y Y r | refine r_len hG Y Y Y Y Y r)
    | (show AOp _ _ ⟨_, .binOp .add _ _ _ _, _, _, _, _⟩ _ _ _; first | refine Ao hG Y Y Y Y Y (by omega) r | refine Bf hG Y Y Y Y Y (by omega) r | refine r_aru8 hG Y Y Y Y Y (by omega) r | refine r_aru16 hG Y Y Y Y Y (by omega) r)
    | (show AOp _ _ ⟨_, .binOp .sub _ _ _ _, _, _, _, _⟩ _ _ _; first | refine Ao hG Y Y Y Y Y (by omega) r | refine Bf hG Y Y Y Y Y (by omega) r | refine r_aru8 hG Y Y Y Y Y (by omega) r | refine r_aru16 hG Y Y Y Y Y (by omega) r)
    | (show AOp _ _ ⟨_, .binOp .mul _ _ _ _, _, _, _, _⟩ _ _ _; first | refine Ao hG Y Y Y Y Y (by omega) r | refine Bf hG Y Y Y Y Y (by omega) r | refine r_aru8 hG Y Y Y Y Y (by omega) r | refine r_aru16 hG Y Y Y Y Y (by omega) r)
    | (show AOp _ _ ⟨_, .binOp .shr _ _ _ _, _, _, _, _⟩ _ _ _; refine r_shr hG Y Y Y Y (by omega) r)
    | (show AOp _ _ ⟨_, .binOp .shl _ _ _ _, _, _, _, _⟩ _ _ _; refine r_shl hG Y Y Y Y (by omega) r)
    | (show AOp _ _ ⟨_, .binOp .rem _ _ _ _, _, _, _, _⟩ _ _ _; first | refine r_rem hG Y Y Y Y (by omega) r | refine r_trem hG Y Y Y Y (by omega) r)
    | (show AOp _ _ ⟨_, .binOp .and _ _ _ _, _, _, _, _⟩ _ _ _; refine r_and63 hG Y Y (by omega) Y r)
    | (show AOp _ _ ⟨_, .binOp _ _ _ _ _, _, _, _, _⟩ _ _ _; first | refine r_cmpT hG Y Y Y Y Y (by omega) r | refine r_cmpF hG Y Y Y Y Y (by omega) r | refine r_strT hG Y Y Y Y (by first | rfl | assumption) r | refine r_strnF hG Y Y Y Y (by first | rfl | assumption) r | refine r_strF hG Y Y Y Y (by assumption) r | refine r_strnT hG Y Y Y Y (by assumption) r | exact And.elim (fun x y => r_cmp hG Y Y Y Y Y x y) r | exact And.elim (fun x y => r_str hG Y Y Y Y x y) r | exact And.elim (fun x y => r_strn hG Y Y Y Y x y) r | refine r_beq hG Y Y Y Y Y r | refine r_bin' hG Y Y Y r | refine r_binP hG Y Y Y Y r)
    | (show AOp _ _ ⟨_, .load _ _, _, _, _, _⟩ _ _ _; first | refine r_ldro hG Y Y Y r | refine r_ld 0 hG Y Y Y Y r | refine r_ld 1 hG Y Y Y Y r | refine r_ld 2 hG Y Y Y Y r | refine r_ld 3 hG Y Y Y Y r | refine r_ld 4 hG Y Y Y Y r | refine r_ld 5 hG Y Y Y Y r | refine r_ld 6 hG Y Y Y Y r | refine r_ld 7 hG Y Y Y Y r | refine r_ldM hG Y hs (by exact Y) Y r)
    | (show AOp _ _ ⟨_, .indexAddr _ _ _, _, _, _, _⟩ _ _ _; first | refine r_idx0 hG Y Y Y Y Y Y Y r | refine r_idxn hG Y Y Y Y Y Y Y (by omega) r | refine r_idxm hG Y Y Y Y Y Y Y (by omega) r | refine r_idx hG Y Y r)
    | (show AOp _ _ ⟨_, .convert _ _ _, _, _, _, _⟩ _ _ _; first | refine r_tostr hG Y Y Y Y Y Y Y Y (by first | exact Bd _ _ | exact bytesT_s _ | rfl) r | refine r_cv8 hG Y Y Y Y Y Y r | refine r_cv16 hG Y Y Y Y Y Y r | refine r_cv_i64 hG Y Y Y Y Y (by omega) r | refine r_cv_u64 hG Y Y Y Y Y (by omega) r | refine r_cv_u8 hG Y Y Y Y Y (by omega) r | refine r_cv_u16 hG Y Y Y Y Y (by omega) r | refine r_cvw hG Y Y Y Y Y r)
    | (show AOp _ _ ⟨_, .slice _ _ _ _ _, _, _, _, _⟩ _ _ _; first | refine r_sl_lon hG Y Y Y Y Y Y Y (by omega) r | refine r_sl_hin hG Y Y Y Y Y Y Y (by omega) r | refine r_sl_lhn hG Y Y Y Y Y Y Y Y (by omega) r | refine r_sl_lo hG Y Y Y Y Y Y Y (by omega) r | refine r_sl_hi hG Y Y Y Y Y Y Y (by omega) r | refine r_sl_lh hG Y Y Y Y Y Y Y Y (by omega) r | refine op_cut0 hG Y Y Y Y Y Y Y Y Y Y r | refine r_sl hG Y Y r)
    | (show AOp _ _ ⟨_, .pick _ _ _, _, _, _, _⟩ _ _ _; refine r_pick hG Y Y Y r)
    | (show AOp _ _ ⟨_, .unOp _ _ _, _, _, _, _⟩ _ _ _; refine r_not hG Y Y Y r)
    | (show AOp _ _ ⟨_, .buildSlice _ _ _, _, _, _, _⟩ _ _ _; first | refine r_mk (sz := 1) hG Y Y Y Y Y Y Y r | refine r_mk (sz := 2) hG Y Y Y Y Y Y Y r | refine r_mk (sz := 3) hG Y Y Y Y Y Y Y r | refine r_mk (sz := 4) hG Y Y Y Y Y Y Y r | refine r_mk (sz := 12) hG Y Y Y Y Y Y Y r | refine r_mk (sz := 13) hG Y Y Y Y Y Y Y r | refine r_mk (sz := 17) hG Y Y Y Y Y Y Y r)
    | (show AOp _ _ ⟨_, .build _ _, _, _, _, _⟩ _ _ _; refine r_build hG Y Y Y Y Y r)
    | (show AOp _ _ ⟨_, .store _ _ _, _, _, _, _⟩ _ _ _; first | refine r_st 0 hG Y Y Y Y Y Y Y r | refine r_st 1 hG Y Y Y Y Y Y Y r | refine r_st 2 hG Y Y Y Y Y Y Y r | refine r_st 3 hG Y Y Y Y Y Y Y r | refine r_st 4 hG Y Y Y Y Y Y Y r | refine r_st 5 hG Y Y Y Y Y Y Y r | refine r_st 6 hG Y Y Y Y Y Y Y r | refine r_st 7 hG Y Y Y Y Y Y Y r | refine r_stM hG Y Y hs Y Y Y (by exact Y) r)
    | (show AOp _ _ ⟨_, .call ⟨.builtin .min, _, _⟩, _, _, _, _⟩ _ _ _; first | refine op_minl Y Y Y (by omega) Y Y r | refine op_minr Y Y Y (by omega) Y Y r | refine op_min Y Y Y Y Y r)
    | refine r_q hG Y Y Y r)
  | refine al_s Y Y Y r
  | (refine al_nil ?_; first | (show AW _ _ _ _ _ _; exact r) | (show ∃ x', _ < _ ∧ _; exact r))) : AL P N ops Q k os a σ := h r
theorem do0 (r : R) (h : R → DL P N ops Q σ os a := by
  intro r
  first
  | (refine' Ap Y Y (fun K kk => ?_) r; (try (show Go.Ts.T; rotate_left)); (first
    | (show AOp _ _ ⟨_, .move _, _, _, _, _⟩ _ _ _; refine r_move hG Y Y ?_)
    | (show AOp _ _ ⟨_, .assign _, _, _, _, _⟩ _ _ _; refine r_asg hG Y Y ?_)
    | (show AOp _ _ ⟨_, .call ⟨.builtin .len, _, _⟩, _, _, _, _⟩ _ _ _; first | refine r_lenm hG Y Y Y Y ?_ | refine r_len hG Y Y Y Y Y ?_)
    | (show AOp _ _ ⟨_, .binOp .add _ _ _ _, _, _, _, _⟩ _ _ _; first | refine Ao hG Y Y Y Y Y (by omega) ?_ | refine Bf hG Y Y Y Y Y (by omega) ?_ | refine r_aru8 hG Y Y Y Y Y (by omega) ?_ | refine r_aru16 hG Y Y Y Y Y (by omega) ?_)
    | (show AOp _ _ ⟨_, .binOp .sub _ _ _ _, _, _, _, _⟩ _ _ _; first | refine Ao hG Y Y Y Y Y (by omega) ?_ | refine Bf hG Y Y Y Y Y (by omega) ?_ | refine r_aru8 hG Y Y Y Y Y (by omega) ?_ | refine r_aru16 hG Y Y Y Y Y (by omega) ?_)
    | (show AOp _ _ ⟨_, .binOp .mul _ _ _ _, _, _, _, _⟩ _ _ _; first | refine Ao hG Y Y Y Y Y (by omega) ?_ | refine Bf hG Y Y Y Y Y (by omega) ?_ | refine r_aru8 hG Y Y Y Y Y (by omega) ?_ | refine r_aru16 hG Y Y Y Y Y (by omega) ?_)
    | (show AOp _ _ ⟨_, .binOp .shr _ _ _ _, _, _, _, _⟩ _ _ _; refine r_shr hG Y Y Y Y (by omega) ?_)
    | (show AOp _ _ ⟨_, .binOp .shl _ _ _ _, _, _, _, _⟩ _ _ _; refine r_shl hG Y Y Y Y (by omega) ?_)
    | (show AOp _ _ ⟨_, .binOp .rem _ _ _ _, _, _, _, _⟩ _ _ _; first | refine r_rem hG Y Y Y Y (by omega) ?_ | refine r_trem hG Y Y Y Y (by omega) ?_)
    | (show AOp _ _ ⟨_, .binOp .and _ _ _ _, _, _, _, _⟩ _ _ _; refine r_and63 hG Y Y (by omega) Y ?_)
    | (show AOp _ _ ⟨_, .binOp _ _ _ _ _, _, _, _, _⟩ _ _ _; first | refine r_cmpT hG Y Y Y Y Y (by omega) ?_ | refine r_cmpF hG Y Y Y Y Y (by omega) ?_ | refine r_strT hG Y Y Y Y (by first | rfl | assumption) ?_ | refine r_strnF hG Y Y Y Y (by first | rfl | assumption) ?_ | refine r_strF hG Y Y Y Y (by assumption) ?_ | refine r_strnT hG Y Y Y Y (by assumption) ?_ | refine r_beq hG Y Y Y Y Y ?_ | refine r_bin' hG Y Y Y ?_ | refine r_binP hG Y Y Y Y ?_)
    | (show AOp _ _ ⟨_, .load _ _, _, _, _, _⟩ _ _ _; first | refine r_ldro hG Y Y Y ?_ | refine r_ld 0 hG Y Y Y Y ?_ | refine r_ld 1 hG Y Y Y Y ?_ | refine r_ld 2 hG Y Y Y Y ?_ | refine r_ld 3 hG Y Y Y Y ?_ | refine r_ld 4 hG Y Y Y Y ?_ | refine r_ld 5 hG Y Y Y Y ?_ | refine r_ld 6 hG Y Y Y Y ?_ | refine r_ld 7 hG Y Y Y Y ?_ | refine r_ldM hG Y hs (by exact Y) Y ?_)
    | (show AOp _ _ ⟨_, .indexAddr _ _ _, _, _, _, _⟩ _ _ _; first | refine r_idx0 hG Y Y Y Y Y Y Y ?_ | refine r_idxn hG Y Y Y Y Y Y Y (by omega) ?_ | refine r_idxm hG Y Y Y Y Y Y Y (by omega) ?_ | refine r_idx hG Y Y ?_)
    | (show AOp _ _ ⟨_, .convert _ _ _, _, _, _, _⟩ _ _ _; first | refine r_tostr hG Y Y Y Y Y Y Y Y (by first | exact Bd _ _ | exact bytesT_s _ | rfl) ?_ | refine r_cv8 hG Y Y Y Y Y Y ?_ | refine r_cv16 hG Y Y Y Y Y Y ?_ | refine r_cv_i64 hG Y Y Y Y Y (by omega) ?_ | refine r_cv_u64 hG Y Y Y Y Y (by omega) ?_ | refine r_cv_u8 hG Y Y Y Y Y (by omega) ?_ | refine r_cv_u16 hG Y Y Y Y Y (by omega) ?_ | refine r_cvw hG Y Y Y Y Y ?_)
    | (show AOp _ _ ⟨_, .slice _ _ _ _ _, _, _, _, _⟩ _ _ _; first | refine r_sl_lon hG Y Y Y Y Y Y Y (by omega) ?_ | refine r_sl_hin hG Y Y Y Y Y Y Y (by omega) ?_ | refine r_sl_lhn hG Y Y Y Y Y Y Y Y (by omega) ?_ | refine r_sl_lo hG Y Y Y Y Y Y Y (by omega) ?_ | refine r_sl_hi hG Y Y Y Y Y Y Y (by omega) ?_ | refine r_sl_lh hG Y Y Y Y Y Y Y Y (by omega) ?_ | refine op_cut0 hG Y Y Y Y Y Y Y Y Y Y ?_ | refine r_sl hG Y Y ?_)
    | (show AOp _ _ ⟨_, .pick _ _ _, _, _, _, _⟩ _ _ _; refine r_pick hG Y Y Y ?_)
    | (show AOp _ _ ⟨_, .unOp _ _ _, _, _, _, _⟩ _ _ _; refine r_not hG Y Y Y ?_)
    | (show AOp _ _ ⟨_, .buildSlice _ _ _, _, _, _, _⟩ _ _ _; first | refine r_mk (sz := 1) hG Y Y Y Y Y Y Y ?_ | refine r_mk (sz := 2) hG Y Y Y Y Y Y Y ?_ | refine r_mk (sz := 3) hG Y Y Y Y Y Y Y ?_ | refine r_mk (sz := 4) hG Y Y Y Y Y Y Y ?_ | refine r_mk (sz := 12) hG Y Y Y Y Y Y Y ?_ | refine r_mk (sz := 13) hG Y Y Y Y Y Y Y ?_ | refine r_mk (sz := 17) hG Y Y Y Y Y Y Y ?_)
    | (show AOp _ _ ⟨_, .build _ _, _, _, _, _⟩ _ _ _; refine r_build hG Y Y Y Y Y ?_)
    | (show AOp _ _ ⟨_, .call ⟨.builtin .min, _, _⟩, _, _, _, _⟩ _ _ _; first | refine op_minl Y Y Y (by omega) Y Y ?_ | refine op_minr Y Y Y (by omega) Y Y ?_ | refine op_min Y Y Y Y Y ?_)
    | refine r_q hG Y Y Y ?_); exact kk)
  | exact And.elim (fun x y => dl_d Y Y (fun K kt kf => r_cmp hG Y Y Y Y Y kt kf) x y) r
  | exact And.elim (fun x y => dl_d Y Y (fun K kt kf => r_str hG Y Y Y Y kt kf) x y) r
  | exact And.elim (fun x y => dl_ne Y Y (fun K kt kf => r_strn hG Y Y Y Y kt kf) x y) r
  | refine dl_s Y Y Y r
  | (refine dl_nil ?_; first | (show AW _ _ _ _ _ _; exact r) | (show ∃ x', _ < _ ∧ _; exact r))) : DL P N ops Q σ os a := h r
theorem so2 (r : R) (h : R → AL P N ops Q k os a σ := by
  intro r
  first
  | (refine Ac Y ?_; first
    | (show AOp _ _ ⟨_, .move _, _, _, _, _⟩ _ _ _; refine r_move hG Y Y r)
    | (show AOp _ _ ⟨_, .assign _, _, _, _, _⟩ _ _ _; refine r_asg hG Y Y r)
    | (show AOp _ _ ⟨_, .call ⟨.builtin .len, _, _⟩, _, _, _, _⟩ _ _ _; first | refine r_lenm hG Y Y Y Y r | refine r_len hG Y Y Y Y Y r)
    | (show AOp _ _ ⟨_, .lookup _ _ _ _, _, _, _, _⟩ _ _ _; first | refine r_lookF hG Y Y Y Y Y Y Y Y Y r | refine r_lookFo hG Y Y Y Y Y Y Y Y Y r | refine r_lookL (n := 0) hG Y Y Y Y Y Y Y Y Y Y r | refine r_lookL (n := 1) hG Y Y Y Y Y Y Y Y Y Y r)
    | (show AOp _ _ ⟨_, .mapUpdate _ _ _ _, _, _, _, _⟩ _ _ _; first | refine r_updL 0 hG Y Y Y Y Y Y Y Y r | refine r_updL 1 hG Y Y Y Y Y Y Y Y r)
    | (show AOp _ _ ⟨_, .binOp .or _ _ _ _, _, _, _, _⟩ _ _ _; refine r_orU hG Y Y Y Y (by omega) r)
    | (show AOp _ _ ⟨_, .binOp .add _ _ _ _, _, _, _, _⟩ _ _ _; first | refine Ah hG Y Y Y Y Y (by omega) r | refine Ah (m := 1) hG Y Y Y Y Y (by omega) r | refine Ah (m := 2) hG Y Y Y Y Y (by omega) r | refine Ah (m := 3) hG Y Y Y Y Y (by omega) r | refine Ah (m := 4) hG Y Y Y Y Y (by omega) r | refine Ah (m := 8) hG Y Y Y Y Y (by omega) r | refine Ah (m := 16) hG Y Y Y Y Y (by omega) r | refine Ah (n := 2) hG Y Y Y Y Y (by omega) r | refine Ah (n := 16) hG Y Y Y Y Y (by omega) r | refine Ao hG Y Y Y Y Y (by omega) r | refine Bf hG Y Y Y Y Y (by omega) r | refine r_aru8 hG Y Y Y Y Y (by omega) r | refine r_aru16 hG Y Y Y Y Y (by omega) r)
    | (show AOp _ _ ⟨_, .binOp .sub _ _ _ _, _, _, _, _⟩ _ _ _; first | refine A8 hG Y Y Y Y (by omega) r | refine A8 (m := 1) hG Y Y Y Y (by omega) r | refine r_subU (m := 1) hG Y Y Y Y (by omega) r | refine Ao hG Y Y Y Y Y (by omega) r | refine Bf hG Y Y Y Y Y (by omega) r | refine r_aru8 hG Y Y Y Y Y (by omega) r | refine r_aru16 hG Y Y Y Y Y (by omega) r)
    | (show AOp _ _ ⟨_, .binOp .mul _ _ _ _, _, _, _, _⟩ _ _ _; first | refine Ah hG Y Y Y Y Y (by omega) r | refine Ah (m := 1) hG Y Y Y Y Y (by omega) r | refine Ah (m := 2) hG Y Y Y Y Y (by omega) r | refine Ah (m := 3) hG Y Y Y Y Y (by omega) r | refine Ah (m := 4) hG Y Y Y Y Y (by omega) r | refine Ah (m := 8) hG Y Y Y Y Y (by omega) r | refine Ah (m := 16) hG Y Y Y Y Y (by omega) r | refine Ah (n := 2) hG Y Y Y Y Y (by omega) r | refine Ah (n := 16) hG Y Y Y Y Y (by omega) r | refine Ao hG Y Y Y Y Y (by omega) r | refine Bf hG Y Y Y Y Y (by omega) r | refine r_aru8 hG Y Y Y Y Y (by omega) r | refine r_aru16 hG Y Y Y Y Y (by omega) r)
    | (show AOp _ _ ⟨_, .binOp .quo _ _ _ _, _, _, _, _⟩ _ _ _; first | refine A2 (m := 2) hG Y Y Y Y (by omega) r | refine A2 (m := 4) hG Y Y Y Y (by omega) r | refine A2 (m := 8) hG Y Y Y Y (by omega) r | refine A2 (m := 16) hG Y Y Y Y (by omega) r | refine A2 (m := 64) hG Y Y Y Y (by omega) r | refine A2 (m := 16) hG Y Y Y Y (by omega) r)
    | (show AOp _ _ ⟨_, .binOp .shr _ _ _ _, _, _, _, _⟩ _ _ _; refine r_shrU hG Y Y Y Y (by omega) r)
    | (show AOp _ _ ⟨_, .binOp .shl _ _ _ _, _, _, _, _⟩ _ _ _; refine r_shlU hG Y Y Y Y (by omega) r)
    | (show AOp _ _ ⟨_, .binOp .xor _ _ _ _, _, _, _, _⟩ _ _ _; refine r_xorU hG Y Y Y Y (by omega) r)
    | (show AOp _ _ ⟨_, .binOp .and _ _ _ _, _, _, _, _⟩ _ _ _; first | refine r_andU hG Y Y Y Y (by omega) r | refine r_andU (m := 63) hG Y Y Y Y (by omega) r)
    | (show AOp _ _ ⟨_, .binOp .shr _ _ _ _, _, _, _, _⟩ _ _ _; refine r_shr hG Y Y Y Y (by omega) r)
    | (show AOp _ _ ⟨_, .binOp .shl _ _ _ _, _, _, _, _⟩ _ _ _; refine r_shl hG Y Y Y Y (by omega) r)
    | (show AOp _ _ ⟨_, .binOp .rem _ _ _ _, _, _, _, _⟩ _ _ _; first | refine r_rem hG Y Y Y Y (by omega) r | refine r_trem hG Y Y Y Y (by omega) r)
    | (show AOp _ _ ⟨_, .binOp .and _ _ _ _, _, _, _, _⟩ _ _ _; refine r_and63 hG Y Y (by omega) Y r)
    | (show AOp _ _ ⟨_, .binOp _ _ _ _ _, _, _, _, _⟩ _ _ _; first | refine r_cmpT hG Y Y Y Y Y (by omega) r | refine r_cmpF hG Y Y Y Y Y (by omega) r | refine r_strT hG Y Y Y Y (by first | rfl | assumption) r | refine r_strnF hG Y Y Y Y (by first | rfl | assumption) r | refine r_strF hG Y Y Y Y (by assumption) r | refine r_strnT hG Y Y Y Y (by assumption) r | exact And.elim (fun x y => r_cmp hG Y Y Y Y Y x y) r | exact And.elim (fun x y => r_str hG Y Y Y Y x y) r | exact And.elim (fun x y => r_strn hG Y Y Y Y x y) r | refine r_beq hG Y Y Y Y Y r | refine r_bin' hG Y Y Y r | refine r_binP hG Y Y Y Y r)
    | (show AOp _ _ ⟨_, .load _ _, _, _, _, _⟩ _ _ _; first | refine Ar (α := UInt16) 0 hG Y Y Y Y (by omega) Y r | refine Ar (α := UInt16) 1 hG Y Y Y Y (by omega) Y r | refine r_ldro hG Y Y Y r | refine r_ld 0 hG Y Y Y Y r | refine r_ld 1 hG Y Y Y Y r | refine r_ld 2 hG Y Y Y Y r | refine r_ld 3 hG Y Y Y Y r | refine r_ld 4 hG Y Y Y Y r | refine r_ld 5 hG Y Y Y Y r | refine r_ld 6 hG Y Y Y Y r | refine r_ld 7 hG Y Y Y Y r | refine r_ldM hG Y hs (by exact Y) Y r)
    | (show AOp _ _ ⟨_, .indexAddr _ _ _, _, _, _, _⟩ _ _ _; first | refine r_idxL hG Y Y Y Y Y Y Y (by omega) r | refine r_idx0 hG Y Y Y Y Y Y Y r | refine r_idxn hG Y Y Y Y Y Y Y (by omega) r | refine r_idxm hG Y Y Y Y Y Y Y (by omega) r | refine r_idx hG Y Y r)
    | (show AOp _ _ ⟨_, .convert _ _ _, _, _, _, _⟩ _ _ _; first | refine r_tostr hG Y Y Y Y Y Y Y Y (by first | exact Bd _ _ | exact bytesT_s _ | rfl) r | refine r_cv8 hG Y Y Y Y Y Y r | refine r_cv16 hG Y Y Y Y Y Y r | refine r_cv_i64 hG Y Y Y Y Y (by omega) r | refine r_cv_u64 hG Y Y Y Y Y (by omega) r | refine r_cv_u8 hG Y Y Y Y Y (by omega) r | refine r_cv_u16 hG Y Y Y Y Y (by omega) r | refine r_cvw hG Y Y Y Y Y r)
    | (show AOp _ _ ⟨_, .slice _ _ _ _ _, _, _, _, _⟩ _ _ _; first | refine r_sl_lon hG Y Y Y Y Y Y Y (by omega) r | refine r_sl_hin hG Y Y Y Y Y Y Y (by omega) r | refine r_sl_lhn hG Y Y Y Y Y Y Y Y (by omega) r | refine r_sl_lo hG Y Y Y Y Y Y Y (by omega) r | refine r_sl_hi hG Y Y Y Y Y Y Y (by omega) r | refine r_sl_lh hG Y Y Y Y Y Y Y Y (by omega) r | refine op_cut0 hG Y Y Y Y Y Y Y Y Y Y r | refine r_sl hG Y Y r)
    | (show AOp _ _ ⟨_, .pick _ _ _, _, _, _, _⟩ _ _ _; refine r_pick hG Y Y Y r)
    | (show AOp _ _ ⟨_, .unOp _ _ _, _, _, _, _⟩ _ _ _; refine r_not hG Y Y Y r)
    | (show AOp _ _ ⟨_, .buildSlice _ _ _, _, _, _, _⟩ _ _ _; first | refine r_mk (sz := 1) hG Y Y Y Y Y Y Y r | refine r_mk (sz := 2) hG Y Y Y Y Y Y Y r | refine r_mk (sz := 3) hG Y Y Y Y Y Y Y r | refine r_mk (sz := 4) hG Y Y Y Y Y Y Y r | refine r_mk (sz := 12) hG Y Y Y Y Y Y Y r | refine r_mk (sz := 13) hG Y Y Y Y Y Y Y r | refine r_mk (sz := 17) hG Y Y Y Y Y Y Y r)
    | (show AOp _ _ ⟨_, .build _ _, _, _, _, _⟩ _ _ _; refine r_build hG Y Y Y Y Y r)
    | (show AOp _ _ ⟨_, .store _ _ _, _, _, _, _⟩ _ _ _; first | refine At (α := UInt16) 0 hG Y Y Y hT_cells hT_sc Y Y (by first | omega | (simp only [Array.size_setIfInBounds]; omega)) r | refine At (α := UInt16) 1 hG Y Y Y hT_cells hT_sc Y Y (by first | omega | (simp only [Array.size_setIfInBounds]; omega)) r | refine r_st 0 hG Y Y Y Y Y Y Y r | refine r_st 1 hG Y Y Y Y Y Y Y r | refine r_st 2 hG Y Y Y Y Y Y Y r | refine r_st 3 hG Y Y Y Y Y Y Y r | refine r_st 4 hG Y Y Y Y Y Y Y r | refine r_st 5 hG Y Y Y Y Y Y Y r | refine r_st 6 hG Y Y Y Y Y Y Y r | refine r_st 7 hG Y Y Y Y Y Y Y r | refine r_stM hG Y Y hs Y Y Y (by exact Y) r)
    | (show AOp _ _ ⟨_, .call ⟨.builtin .min, _, _⟩, _, _, _, _⟩ _ _ _; first | refine op_minl Y Y Y (by omega) Y Y r | refine op_minr Y Y Y (by omega) Y Y r | refine op_min Y Y Y Y Y r)
    | refine r_q hG Y Y Y r)
  | refine al_s Y Y Y r
  | (refine al_nil ?_; first | (show AW _ _ _ _ _ _; exact r) | (show ∃ x', _ < _ ∧ _; exact r))) : AL P N ops Q k os a σ := h r
theorem do2 (r : R) (h : R → DL P N ops Q σ os a := by
  intro r
  first
  | (refine' Ap Y Y (fun K kk => ?_) r; (try (show Go.Ts.T; rotate_left)); (first
    | (show AOp _ _ ⟨_, .move _, _, _, _, _⟩ _ _ _; refine r_move hG Y Y ?_)
    | (show AOp _ _ ⟨_, .assign _, _, _, _, _⟩ _ _ _; refine r_asg hG Y Y ?_)
    | (show AOp _ _ ⟨_, .call ⟨.builtin .len, _, _⟩, _, _, _, _⟩ _ _ _; first | refine r_lenm hG Y Y Y Y ?_ | refine r_len hG Y Y Y Y Y ?_)
    | (show AOp _ _ ⟨_, .lookup _ _ _ _, _, _, _, _⟩ _ _ _; first | refine r_lookF hG Y Y Y Y Y Y Y Y Y ?_ | refine r_lookFo hG Y Y Y Y Y Y Y Y Y ?_ | refine r_lookL (n := 0) hG Y Y Y Y Y Y Y Y Y Y ?_ | refine r_lookL (n := 1) hG Y Y Y Y Y Y Y Y Y Y ?_)
    | (show AOp _ _ ⟨_, .binOp .or _ _ _ _, _, _, _, _⟩ _ _ _; refine r_orU hG Y Y Y Y (by omega) ?_)
    | (show AOp _ _ ⟨_, .binOp .add _ _ _ _, _, _, _, _⟩ _ _ _; first | refine Ah hG Y Y Y Y Y (by omega) ?_ | refine Ah (m := 1) hG Y Y Y Y Y (by omega) ?_ | refine Ah (m := 2) hG Y Y Y Y Y (by omega) ?_ | refine Ah (m := 3) hG Y Y Y Y Y (by omega) ?_ | refine Ah (m := 4) hG Y Y Y Y Y (by omega) ?_ | refine Ah (m := 8) hG Y Y Y Y Y (by omega) ?_ | refine Ah (m := 16) hG Y Y Y Y Y (by omega) ?_ | refine Ah (n := 2) hG Y Y Y Y Y (by omega) ?_ | refine Ah (n := 16) hG Y Y Y Y Y (by omega) ?_ | refine Ao hG Y Y Y Y Y (by omega) ?_ | refine Bf hG Y Y Y Y Y (by omega) ?_ | refine r_aru8 hG Y Y Y Y Y (by omega) ?_ | refine r_aru16 hG Y Y Y Y Y (by omega) ?_)
    | (show AOp _ _ ⟨_, .binOp .sub _ _ _ _, _, _, _, _⟩ _ _ _; first | refine A8 hG Y Y Y Y (by omega) ?_ | refine A8 (m := 1) hG Y Y Y Y (by omega) ?_ | refine r_subU (m := 1) hG Y Y Y Y (by omega) ?_ | refine Ao hG Y Y Y Y Y (by omega) ?_ | refine Bf hG Y Y Y Y Y (by omega) ?_ | refine r_aru8 hG Y Y Y Y Y (by omega) ?_ | refine r_aru16 hG Y Y Y Y Y (by omega) ?_)
    | (show AOp _ _ ⟨_, .binOp .mul _ _ _ _, _, _, _, _⟩ _ _ _; first | refine Ah hG Y Y Y Y Y (by omega) ?_ | refine Ah (m := 1) hG Y Y Y Y Y (by omega) ?_ | refine Ah (m := 2) hG Y Y Y Y Y (by omega) ?_ | refine Ah (m := 3) hG Y Y Y Y Y (by omega) ?_ | refine Ah (m := 4) hG Y Y Y Y Y (by omega) ?_ | refine Ah (m := 8) hG Y Y Y Y Y (by omega) ?_ | refine Ah (m := 16) hG Y Y Y Y Y (by omega) ?_ | refine Ah (n := 2) hG Y Y Y Y Y (by omega) ?_ | refine Ah (n := 16) hG Y Y Y Y Y (by omega) ?_ | refine Ao hG Y Y Y Y Y (by omega) ?_ | refine Bf hG Y Y Y Y Y (by omega) ?_ | refine r_aru8 hG Y Y Y Y Y (by omega) ?_ | refine r_aru16 hG Y Y Y Y Y (by omega) ?_)
    | (show AOp _ _ ⟨_, .binOp .quo _ _ _ _, _, _, _, _⟩ _ _ _; first | refine A2 (m := 2) hG Y Y Y Y (by omega) ?_ | refine A2 (m := 4) hG Y Y Y Y (by omega) ?_ | refine A2 (m := 8) hG Y Y Y Y (by omega) ?_ | refine A2 (m := 16) hG Y Y Y Y (by omega) ?_ | refine A2 (m := 64) hG Y Y Y Y (by omega) ?_ | refine A2 (m := 16) hG Y Y Y Y (by omega) ?_)
    | (show AOp _ _ ⟨_, .binOp .shr _ _ _ _, _, _, _, _⟩ _ _ _; refine r_shrU hG Y Y Y Y (by omega) ?_)
    | (show AOp _ _ ⟨_, .binOp .shl _ _ _ _, _, _, _, _⟩ _ _ _; refine r_shlU hG Y Y Y Y (by omega) ?_)
    | (show AOp _ _ ⟨_, .binOp .xor _ _ _ _, _, _, _, _⟩ _ _ _; refine r_xorU hG Y Y Y Y (by omega) ?_)
    | (show AOp _ _ ⟨_, .binOp .and _ _ _ _, _, _, _, _⟩ _ _ _; first | refine r_andU hG Y Y Y Y (by omega) ?_ | refine r_andU (m := 63) hG Y Y Y Y (by omega) ?_)
    | (show AOp _ _ ⟨_, .binOp .shr _ _ _ _, _, _, _, _⟩ _ _ _; refine r_shr hG Y Y Y Y (by omega) ?_)
    | (show AOp _ _ ⟨_, .binOp .shl _ _ _ _, _, _, _, _⟩ _ _ _; refine r_shl hG Y Y Y Y (by omega) ?_)
    | (show AOp _ _ ⟨_, .binOp .rem _ _ _ _, _, _, _, _⟩ _ _ _; first | refine r_rem hG Y Y Y Y (by omega) ?_ | refine r_trem hG Y Y Y Y (by omega) ?_)
    | (show AOp _ _ ⟨_, .binOp .and _ _ _ _, _, _, _, _⟩ _ _ _; refine r_and63 hG Y Y (by omega) Y ?_)
    | (show AOp _ _ ⟨_, .binOp _ _ _ _ _, _, _, _, _⟩ _ _ _; first | refine r_cmpT hG Y Y Y Y Y (by omega) ?_ | refine r_cmpF hG Y Y Y Y Y (by omega) ?_ | refine r_strT hG Y Y Y Y (by first | rfl | assumption) ?_ | refine r_strnF hG Y Y Y Y (by first | rfl | assumption) ?_ | refine r_strF hG Y Y Y Y (by assumption) ?_ | refine r_strnT hG Y Y Y Y (by assumption) ?_ | refine r_beq hG Y Y Y Y Y ?_ | refine r_bin' hG Y Y Y ?_ | refine r_binP hG Y Y Y Y ?_)
    | (show AOp _ _ ⟨_, .load _ _, _, _, _, _⟩ _ _ _; first | refine Ar (α := UInt16) 0 hG Y Y Y Y (by omega) Y ?_ | refine Ar (α := UInt16) 1 hG Y Y Y Y (by omega) Y ?_ | refine r_ldro hG Y Y Y ?_ | refine r_ld 0 hG Y Y Y Y ?_ | refine r_ld 1 hG Y Y Y Y ?_ | refine r_ld 2 hG Y Y Y Y ?_ | refine r_ld 3 hG Y Y Y Y ?_ | refine r_ld 4 hG Y Y Y Y ?_ | refine r_ld 5 hG Y Y Y Y ?_ | refine r_ld 6 hG Y Y Y Y ?_ | refine r_ld 7 hG Y Y Y Y ?_ | refine r_ldM hG Y hs (by exact Y) Y ?_)
    | (show AOp _ _ ⟨_, .indexAddr _ _ _, _, _, _, _⟩ _ _ _; first | refine r_idxL hG Y Y Y Y Y Y Y (by omega) ?_ | refine r_idx0 hG Y Y Y Y Y Y Y ?_ | refine r_idxn hG Y Y Y Y Y Y Y (by omega) ?_ | refine r_idxm hG Y Y Y Y Y Y Y (by omega) ?_ | refine r_idx hG Y Y ?_)
    | (show AOp _ _ ⟨_, .convert _ _ _, _, _, _, _⟩ _ _ _; first | refine r_tostr hG Y Y Y Y Y Y Y Y (by first | exact Bd _ _ | exact bytesT_s _ | rfl) ?_ | refine r_cv8 hG Y Y Y Y Y Y ?_ | refine r_cv16 hG Y Y Y Y Y Y ?_ | refine r_cv_i64 hG Y Y Y Y Y (by omega) ?_ | refine r_cv_u64 hG Y Y Y Y Y (by omega) ?_ | refine r_cv_u8 hG Y Y Y Y Y (by omega) ?_ | refine r_cv_u16 hG Y Y Y Y Y (by omega) ?_ | refine r_cvw hG Y Y Y Y Y ?_)
    | (show AOp _ _ ⟨_, .slice _ _ _ _ _, _, _, _, _⟩ _ _ _; first | refine r_sl_lon hG Y Y Y Y Y Y Y (by omega) ?_ | refine r_sl_hin hG Y Y Y Y Y Y Y (by omega) ?_ | refine r_sl_lhn hG Y Y Y Y Y Y Y Y (by omega) ?_ | refine r_sl_lo hG Y Y Y Y Y Y Y (by omega) ?_ | refine r_sl_hi hG Y Y Y Y Y Y Y (by omega) ?_ | refine r_sl_lh hG Y Y Y Y Y Y Y Y (by omega) ?_ | refine op_cut0 hG Y Y Y Y Y Y Y Y Y Y ?_ | refine r_sl hG Y Y ?_)
    | (show AOp _ _ ⟨_, .pick _ _ _, _, _, _, _⟩ _ _ _; refine r_pick hG Y Y Y ?_)
    | (show AOp _ _ ⟨_, .unOp _ _ _, _, _, _, _⟩ _ _ _; refine r_not hG Y Y Y ?_)
    | (show AOp _ _ ⟨_, .buildSlice _ _ _, _, _, _, _⟩ _ _ _; first | refine r_mk (sz := 1) hG Y Y Y Y Y Y Y ?_ | refine r_mk (sz := 2) hG Y Y Y Y Y Y Y ?_ | refine r_mk (sz := 3) hG Y Y Y Y Y Y Y ?_ | refine r_mk (sz := 4) hG Y Y Y Y Y Y Y ?_ | refine r_mk (sz := 12) hG Y Y Y Y Y Y Y ?_ | refine r_mk (sz := 13) hG Y Y Y Y Y Y Y ?_ | refine r_mk (sz := 17) hG Y Y Y Y Y Y Y ?_)
    | (show AOp _ _ ⟨_, .build _ _, _, _, _, _⟩ _ _ _; refine r_build hG Y Y Y Y Y ?_)
    | (show AOp _ _ ⟨_, .call ⟨.builtin .min, _, _⟩, _, _, _, _⟩ _ _ _; first | refine op_minl Y Y Y (by omega) Y Y ?_ | refine op_minr Y Y Y (by omega) Y Y ?_ | refine op_min Y Y Y Y Y ?_)
    | refine r_q hG Y Y Y ?_); exact kk)
  | exact And.elim (fun x y => dl_d Y Y (fun K kt kf => r_cmp hG Y Y Y Y Y kt kf) x y) r
  | exact And.elim (fun x y => dl_d Y Y (fun K kt kf => r_str hG Y Y Y Y kt kf) x y) r
  | exact And.elim (fun x y => dl_ne Y Y (fun K kt kf => r_strn hG Y Y Y Y kt kf) x y) r
  | refine dl_s Y Y Y r
  | (refine dl_nil ?_; first | (show AW _ _ _ _ _ _; exact r) | (show ∃ x', _ < _ ∧ _; exact r))) : DL P N ops Q σ os a := h r
theorem ep2 (r : R) (h : R → DQ P N ops eff F QE n os a := by
  intro r
  first
  | (refine' dq_cons Y Y Y (fun σ hσ K kk => ?_) r; (try (show Go.Ts.T; rotate_left)); (first
    | (show AOp _ _ ⟨_, .load _ _, _, _, _, _⟩ _ _ _; first | refine r_ldro hG Y Y Y ?_ | refine r_ldC hσ hG Y hs (by exact Y) Y ?_)
    | (show AOp _ _ ⟨_, .move _, _, _, _, _⟩ _ _ _; refine r_move hG Y Y ?_)
    | (show AOp _ _ ⟨_, .assign _, _, _, _, _⟩ _ _ _; refine r_asg hG Y Y ?_)
    | (show AOp _ _ ⟨_, .call ⟨.builtin .len, _, _⟩, _, _, _, _⟩ _ _ _; first | refine r_lenm hG Y Y Y Y ?_ | refine r_len hG Y Y Y Y Y ?_)
    | (show AOp _ _ ⟨_, .lookup _ _ _ _, _, _, _, _⟩ _ _ _; first | refine r_lookF hG Y Y Y Y Y Y Y Y Y ?_ | refine r_lookFo hG Y Y Y Y Y Y Y Y Y ?_ | refine r_lookL (n := 0) hG Y Y Y Y Y Y Y Y Y Y ?_ | refine r_lookL (n := 1) hG Y Y Y Y Y Y Y Y Y Y ?_)
    | (show AOp _ _ ⟨_, .binOp .or _ _ _ _, _, _, _, _⟩ _ _ _; refine r_orU hG Y Y Y Y (by omega) ?_)
    | (show AOp _ _ ⟨_, .binOp .add _ _ _ _, _, _, _, _⟩ _ _ _; first | refine Ah hG Y Y Y Y Y (by omega) ?_ | refine Ah (m := 1) hG Y Y Y Y Y (by omega) ?_ | refine Ah (m := 2) hG Y Y Y Y Y (by omega) ?_ | refine Ah (m := 3) hG Y Y Y Y Y (by omega) ?_ | refine Ah (m := 4) hG Y Y Y Y Y (by omega) ?_ | refine Ah (m := 8) hG Y Y Y Y Y (by omega) ?_ | refine Ah (m := 16) hG Y Y Y Y Y (by omega) ?_ | refine Ah (n := 2) hG Y Y Y Y Y (by omega) ?_ | refine Ah (n := 16) hG Y Y Y Y Y (by omega) ?_ | refine Ao hG Y Y Y Y Y (by omega) ?_ | refine Bf hG Y Y Y Y Y (by omega) ?_ | refine r_aru8 hG Y Y Y Y Y (by omega) ?_ | refine r_aru16 hG Y Y Y Y Y (by omega) ?_)
    | (show AOp _ _ ⟨_, .binOp .sub _ _ _ _, _, _, _, _⟩ _ _ _; first | refine A8 hG Y Y Y Y (by omega) ?_ | refine A8 (m := 1) hG Y Y Y Y (by omega) ?_ | refine r_subU (m := 1) hG Y Y Y Y (by omega) ?_ | refine Ao hG Y Y Y Y Y (by omega) ?_ | refine Bf hG Y Y Y Y Y (by omega) ?_ | refine r_aru8 hG Y Y Y Y Y (by omega) ?_ | refine r_aru16 hG Y Y Y Y Y (by omega) ?_)
    | (show AOp _ _ ⟨_, .binOp .mul _ _ _ _, _, _, _, _⟩ _ _ _; first | refine Ah hG Y Y Y Y Y (by omega) ?_ | refine Ah (m := 1) hG Y Y Y Y Y (by omega) ?_ | refine Ah (m := 2) hG Y Y Y Y Y (by omega) ?_ | refine Ah (m := 3) hG Y Y Y Y Y (by omega) ?_ | refine Ah (m := 4) hG Y Y Y Y Y (by omega) ?_ | refine Ah (m := 8) hG Y Y Y Y Y (by omega) ?_ | refine Ah (m := 16) hG Y Y Y Y Y (by omega) ?_ | refine Ah (n := 2) hG Y Y Y Y Y (by omega) ?_ | refine Ah (n := 16) hG Y Y Y Y Y (by omega) ?_ | refine Ao hG Y Y Y Y Y (by omega) ?_ | refine Bf hG Y Y Y Y Y (by omega) ?_ | refine r_aru8 hG Y Y Y Y Y (by omega) ?_ | refine r_aru16 hG Y Y Y Y Y (by omega) ?_)
    | (show AOp _ _ ⟨_, .binOp .quo _ _ _ _, _, _, _, _⟩ _ _ _; first | refine A2 (m := 2) hG Y Y Y Y (by omega) ?_ | refine A2 (m := 4) hG Y Y Y Y (by omega) ?_ | refine A2 (m := 8) hG Y Y Y Y (by omega) ?_ | refine A2 (m := 16) hG Y Y Y Y (by omega) ?_ | refine A2 (m := 64) hG Y Y Y Y (by omega) ?_ | refine A2 (m := 16) hG Y Y Y Y (by omega) ?_)
    | (show AOp _ _ ⟨_, .binOp .shr _ _ _ _, _, _, _, _⟩ _ _ _; refine r_shrU hG Y Y Y Y (by omega) ?_)
    | (show AOp _ _ ⟨_, .binOp .shl _ _ _ _, _, _, _, _⟩ _ _ _; refine r_shlU hG Y Y Y Y (by omega) ?_)
    | (show AOp _ _ ⟨_, .binOp .xor _ _ _ _, _, _, _, _⟩ _ _ _; refine r_xorU hG Y Y Y Y (by omega) ?_)
    | (show AOp _ _ ⟨_, .binOp .and _ _ _ _, _, _, _, _⟩ _ _ _; first | refine r_andU hG Y Y Y Y (by omega) ?_ | refine r_andU (m := 63) hG Y Y Y Y (by omega) ?_)
    | (show AOp _ _ ⟨_, .binOp .shr _ _ _ _, _, _, _, _⟩ _ _ _; refine r_shr hG Y Y Y Y (by omega) ?_)
    | (show AOp _ _ ⟨_, .binOp .shl _ _ _ _, _, _, _, _⟩ _ _ _; refine r_shl hG Y Y Y Y (by omega) ?_)
    | (show AOp _ _ ⟨_, .binOp .rem _ _ _ _, _, _, _, _⟩ _ _ _; first | refine r_rem hG Y Y Y Y (by omega) ?_ | refine r_trem hG Y Y Y Y (by omega) ?_)
    | (show AOp _ _ ⟨_, .binOp .and _ _ _ _, _, _, _, _⟩ _ _ _; refine r_and63 hG Y Y (by omega) Y ?_)
    | (show AOp _ _ ⟨_, .binOp _ _ _ _ _, _, _, _, _⟩ _ _ _; first | refine r_cmpT hG Y Y Y Y Y (by omega) ?_ | refine r_cmpF hG Y Y Y Y Y (by omega) ?_ | refine r_strT hG Y Y Y Y (by first | rfl | assumption) ?_ | refine r_strnF hG Y Y Y Y (by first | rfl | assumption) ?_ | refine r_strF hG Y Y Y Y (by assumption) ?_ | refine r_strnT hG Y Y Y Y (by assumption) ?_ | refine r_beq hG Y Y Y Y Y ?_ | refine r_bin' hG Y Y Y ?_ | refine r_binP hG Y Y Y Y ?_)
    | (show AOp _ _ ⟨_, .indexAddr _ _ _, _, _, _, _⟩ _ _ _; first | refine r_idxL hG Y Y Y Y Y Y Y (by omega) ?_ | refine r_idx0 hG Y Y Y Y Y Y Y ?_ | refine r_idxn hG Y Y Y Y Y Y Y (by omega) ?_ | refine r_idxm hG Y Y Y Y Y Y Y (by omega) ?_ | refine r_idx hG Y Y ?_)
    | (show AOp _ _ ⟨_, .convert _ _ _, _, _, _, _⟩ _ _ _; first | refine r_tostr hG Y Y Y Y Y Y Y Y (by first | exact Bd _ _ | exact bytesT_s _ | rfl) ?_ | refine r_cv8 hG Y Y Y Y Y Y ?_ | refine r_cv16 hG Y Y Y Y Y Y ?_ | refine r_cv_i64 hG Y Y Y Y Y (by omega) ?_ | refine r_cv_u64 hG Y Y Y Y Y (by omega) ?_ | refine r_cv_u8 hG Y Y Y Y Y (by omega) ?_ | refine r_cv_u16 hG Y Y Y Y Y (by omega) ?_ | refine r_cvw hG Y Y Y Y Y ?_)
    | (show AOp _ _ ⟨_, .slice _ _ _ _ _, _, _, _, _⟩ _ _ _; first | refine r_sl_lon hG Y Y Y Y Y Y Y (by omega) ?_ | refine r_sl_hin hG Y Y Y Y Y Y Y (by omega) ?_ | refine r_sl_lhn hG Y Y Y Y Y Y Y Y (by omega) ?_ | refine r_sl_lo hG Y Y Y Y Y Y Y (by omega) ?_ | refine r_sl_hi hG Y Y Y Y Y Y Y (by omega) ?_ | refine r_sl_lh hG Y Y Y Y Y Y Y Y (by omega) ?_ | refine op_cut0 hG Y Y Y Y Y Y Y Y Y Y ?_ | refine r_sl hG Y Y ?_)
    | (show AOp _ _ ⟨_, .pick _ _ _, _, _, _, _⟩ _ _ _; refine r_pick hG Y Y Y ?_)
    | (show AOp _ _ ⟨_, .unOp _ _ _, _, _, _, _⟩ _ _ _; refine r_not hG Y Y Y ?_)
    | (show AOp _ _ ⟨_, .buildSlice _ _ _, _, _, _, _⟩ _ _ _; first | refine r_mk (sz := 1) hG Y Y Y Y Y Y Y ?_ | refine r_mk (sz := 2) hG Y Y Y Y Y Y Y ?_ | refine r_mk (sz := 3) hG Y Y Y Y Y Y Y ?_ | refine r_mk (sz := 4) hG Y Y Y Y Y Y Y ?_ | refine r_mk (sz := 12) hG Y Y Y Y Y Y Y ?_ | refine r_mk (sz := 13) hG Y Y Y Y Y Y Y ?_ | refine r_mk (sz := 17) hG Y Y Y Y Y Y Y ?_)
    | (show AOp _ _ ⟨_, .build _ _, _, _, _, _⟩ _ _ _; refine r_build hG Y Y Y Y Y ?_)
    | (show AOp _ _ ⟨_, .call ⟨.builtin .min, _, _⟩, _, _, _, _⟩ _ _ _; first | refine op_minl Y Y Y (by omega) Y Y ?_ | refine op_minr Y Y Y (by omega) Y Y ?_ | refine op_min Y Y Y Y Y ?_)
    | refine r_q hG Y Y Y ?_); exact kk)
  | exact And.elim (fun x y => dq_d Y Y Y (fun σ hσ K kt kf => r_cmp hG Y Y Y Y Y kt kf) x y) r
  | exact And.elim (fun x y => dq_d Y Y Y (fun σ hσ K kt kf => r_str hG Y Y Y Y kt kf) x y) r
  | refine dq_s Y Y Y Y r
  | refine dq_e Y r
  | (refine dq_nil ?_; show EL _ _ _ _ _ _ _ _ _; exact r)) : DQ P N ops eff F QE n os a := h r
theorem so3 (r : R) (h : R → AL P N ops Q k os a σ := by
  intro r
  first
  | (refine Ac Y ?_; first
    | (show AOp _ _ ⟨_, .move _, _, _, _, _⟩ _ _ _; refine r_move hG Y Y r)
    | (show AOp _ _ ⟨_, .assign _, _, _, _, _⟩ _ _ _; refine r_asg hG Y Y r)
    | (show AOp _ _ ⟨_, .call ⟨.builtin .len, _, _⟩, _, _, _, _⟩ _ _ _; first | refine r_lenm hG Y Y Y Y r | refine r_len hG Y Y Y Y Y r)
    | (show AOp _ _ ⟨_, .lookup _ _ _ _, _, _, _, _⟩ _ _ _; first | refine r_lookF hG Y Y Y Y Y Y Y Y Y r | refine r_lookFo hG Y Y Y Y Y Y Y Y Y r | refine r_lookL (n := 0) hG Y Y Y Y Y Y Y Y Y Y r | refine r_lookL (n := 1) hG Y Y Y Y Y Y Y Y Y Y r)
    | (show AOp _ _ ⟨_, .mapUpdate _ _ _ _, _, _, _, _⟩ _ _ _; first | refine r_updL 0 hG Y Y Y Y Y Y Y Y r | refine r_updL 1 hG Y Y Y Y Y Y Y Y r)
    | (show AOp _ _ ⟨_, .binOp .or _ _ _ _, _, _, _, _⟩ _ _ _; refine r_orU hG Y Y Y Y (by omega) r)
    | (show AOp _ _ ⟨_, .binOp .add _ _ _ _, _, _, _, _⟩ _ _ _; first | refine Ah hG Y Y Y Y Y (by omega) r | refine Ah (m := 1) hG Y Y Y Y Y (by omega) r | refine Ah (m := 2) hG Y Y Y Y Y (by omega) r | refine Ah (m := 3) hG Y Y Y Y Y (by omega) r | refine Ah (m := 4) hG Y Y Y Y Y (by omega) r | refine Ah (m := 8) hG Y Y Y Y Y (by omega) r | refine Ah (m := 16) hG Y Y Y Y Y (by omega) r | refine Ah (n := 2) hG Y Y Y Y Y (by omega) r | refine Ah (n := 16) hG Y Y Y Y Y (by omega) r | refine Ao hG Y Y Y Y Y (by omega) r | refine Bf hG Y Y Y Y Y (by omega) r | refine r_aru8 hG Y Y Y Y Y (by omega) r | refine r_aru16 hG Y Y Y Y Y (by omega) r)
    | (show AOp _ _ ⟨_, .binOp .sub _ _ _ _, _, _, _, _⟩ _ _ _; first | refine A8 hG Y Y Y Y (by omega) r | refine A8 (m := 1) hG Y Y Y Y (by omega) r | refine r_subU (m := 1) hG Y Y Y Y (by omega) r | refine Ao hG Y Y Y Y Y (by omega) r | refine Bf hG Y Y Y Y Y (by omega) r | refine r_aru8 hG Y Y Y Y Y (by omega) r | refine r_aru16 hG Y Y Y Y Y (by omega) r)
    | (show AOp _ _ ⟨_, .binOp .mul _ _ _ _, _, _, _, _⟩ _ _ _; first | refine Ah hG Y Y Y Y Y (by omega) r | refine Ah (m := 1) hG Y Y Y Y Y (by omega) r | refine Ah (m := 2) hG Y Y Y Y Y (by omega) r | refine Ah (m := 3) hG Y Y Y Y Y (by omega) r | refine Ah (m := 4) hG Y Y Y Y Y (by omega) r | refine Ah (m := 8) hG Y Y Y Y Y (by omega) r | refine Ah (m := 16) hG Y Y Y Y Y (by omega) r | refine Ah (n := 2) hG Y Y Y Y Y (by omega) r | refine Ah (n := 16) hG Y Y Y Y Y (by omega) r | refine Ao hG Y Y Y Y Y (by omega) r | refine Bf hG Y Y Y Y Y (by omega) r | refine r_aru8 hG Y Y Y Y Y (by omega) r | refine r_aru16 hG Y Y Y Y Y (by omega) r)
    | (show AOp _ _ ⟨_, .binOp .quo _ _ _ _, _, _, _, _⟩ _ _ _; first | refine A2 (m := 2) hG Y Y Y Y (by omega) r | refine A2 (m := 4) hG Y Y Y Y (by omega) r | refine A2 (m := 8) hG Y Y Y Y (by omega) r | refine A2 (m := 16) hG Y Y Y Y (by omega) r | refine A2 (m := 64) hG Y Y Y Y (by omega) r | refine A2 (m := 16) hG Y Y Y Y (by omega) r)
    | (show AOp _ _ ⟨_, .binOp .shr _ _ _ _, _, _, _, _⟩ _ _ _; refine r_shrU hG Y Y Y Y (by omega) r)
    | (show AOp _ _ ⟨_, .binOp .shl _ _ _ _, _, _, _, _⟩ _ _ _; refine r_shlU hG Y Y Y Y (by omega) r)
    | (show AOp _ _ ⟨_, .binOp .xor _ _ _ _, _, _, _, _⟩ _ _ _; refine r_xorU hG Y Y Y Y (by omega) r)
    | (show AOp _ _ ⟨_, .binOp .and _ _ _ _, _, _, _, _⟩ _ _ _; first | refine r_andU hG Y Y Y Y (by omega) r | refine r_andU (m := 63) hG Y Y Y Y (by omega) r)
    | (show AOp _ _ ⟨_, .binOp .shr _ _ _ _, _, _, _, _⟩ _ _ _; refine r_shr hG Y Y Y Y (by omega) r)
    | (show AOp _ _ ⟨_, .binOp .shl _ _ _ _, _, _, _, _⟩ _ _ _; refine r_shl hG Y Y Y Y (by omega) r)
    | (show AOp _ _ ⟨_, .binOp .rem _ _ _ _, _, _, _, _⟩ _ _ _; first | refine r_rem hG Y Y Y Y (by omega) r | refine r_trem hG Y Y Y Y (by omega) r)
    | (show AOp _ _ ⟨_, .binOp .and _ _ _ _, _, _, _, _⟩ _ _ _; refine r_and63 hG Y Y (by omega) Y r)
    | (show AOp _ _ ⟨_, .binOp _ _ _ _ _, _, _, _, _⟩ _ _ _; first | refine r_cmpT hG Y Y Y Y Y (by omega) r | refine r_cmpF hG Y Y Y Y Y (by omega) r | refine r_strT hG Y Y Y Y (by first | rfl | assumption) r | refine r_strnF hG Y Y Y Y (by first | rfl | assumption) r | refine r_strF hG Y Y Y Y (by assumption) r | refine r_strnT hG Y Y Y Y (by assumption) r | exact And.elim (fun x y => r_cmp hG Y Y Y Y Y x y) r | exact And.elim (fun x y => r_str hG Y Y Y Y x y) r | exact And.elim (fun x y => r_strn hG Y Y Y Y x y) r | refine r_beq hG Y Y Y Y Y r | refine r_bin' hG Y Y Y r | refine r_binP hG Y Y Y Y r)
    | (show AOp _ _ ⟨_, .load _ _, _, _, _, _⟩ _ _ _; first | refine Ar (α := Nat) 0 hG Y Y Y Y (by omega) Y r | refine Ar (α := Nat) 1 hG Y Y Y Y (by omega) Y r | refine r_ldro hG Y Y Y r | refine r_ld 0 hG Y Y Y Y r | refine r_ld 1 hG Y Y Y Y r | refine r_ld 2 hG Y Y Y Y r | refine r_ld 3 hG Y Y Y Y r | refine r_ld 4 hG Y Y Y Y r | refine r_ld 5 hG Y Y Y Y r | refine r_ld 6 hG Y Y Y Y r | refine r_ld 7 hG Y Y Y Y r | refine r_ldM hG Y hs (by exact Y) Y r)
    | (show AOp _ _ ⟨_, .indexAddr _ _ _, _, _, _, _⟩ _ _ _; first | refine r_idxL hG Y Y Y Y Y Y Y (by omega) r | refine r_idx0 hG Y Y Y Y Y Y Y r | refine r_idxn hG Y Y Y Y Y Y Y (by omega) r | refine r_idxm hG Y Y Y Y Y Y Y (by omega) r | refine r_idx hG Y Y r)
    | (show AOp _ _ ⟨_, .convert _ _ _, _, _, _, _⟩ _ _ _; first | refine r_tostr hG Y Y Y Y Y Y Y Y (by first | exact Bd _ _ | exact bytesT_s _ | rfl) r | refine r_cv8 hG Y Y Y Y Y Y r | refine r_cv16 hG Y Y Y Y Y Y r | refine r_cv_i64 hG Y Y Y Y Y (by omega) r | refine r_cv_u64 hG Y Y Y Y Y (by omega) r | refine r_cv_u8 hG Y Y Y Y Y (by omega) r | refine r_cv_u16 hG Y Y Y Y Y (by omega) r | refine r_cvw hG Y Y Y Y Y r)
    | (show AOp _ _ ⟨_, .slice _ _ _ _ _, _, _, _, _⟩ _ _ _; first | refine r_sl_lon hG Y Y Y Y Y Y Y (by omega) r | refine r_sl_hin hG Y Y Y Y Y Y Y (by omega) r | refine r_sl_lhn hG Y Y Y Y Y Y Y Y (by omega) r | refine r_sl_lo hG Y Y Y Y Y Y Y (by omega) r | refine r_sl_hi hG Y Y Y Y Y Y Y (by omega) r | refine r_sl_lh hG Y Y Y Y Y Y Y Y (by omega) r | refine op_cut0 hG Y Y Y Y Y Y Y Y Y Y r | refine r_sl hG Y Y r)
    | (show AOp _ _ ⟨_, .pick _ _ _, _, _, _, _⟩ _ _ _; refine r_pick hG Y Y Y r)
    | (show AOp _ _ ⟨_, .unOp _ _ _, _, _, _, _⟩ _ _ _; refine r_not hG Y Y Y r)
    | (show AOp _ _ ⟨_, .buildSlice _ _ _, _, _, _, _⟩ _ _ _; first | refine r_mk (sz := 1) hG Y Y Y Y Y Y Y r | refine r_mk (sz := 2) hG Y Y Y Y Y Y Y r | refine r_mk (sz := 3) hG Y Y Y Y Y Y Y r | refine r_mk (sz := 4) hG Y Y Y Y Y Y Y r | refine r_mk (sz := 12) hG Y Y Y Y Y Y Y r | refine r_mk (sz := 13) hG Y Y Y Y Y Y Y r | refine r_mk (sz := 17) hG Y Y Y Y Y Y Y r)
    | (show AOp _ _ ⟨_, .build _ _, _, _, _, _⟩ _ _ _; refine r_build hG Y Y Y Y Y r)
    | (show AOp _ _ ⟨_, .store _ _ _, _, _, _, _⟩ _ _ _; first | refine At (α := Nat) 0 hG Y Y Y Aj Aw Y Y (by first | omega | (simp only [Array.size_setIfInBounds]; omega)) r | refine At (α := Nat) 1 hG Y Y Y Aj Aw Y Y (by first | omega | (simp only [Array.size_setIfInBounds]; omega)) r | refine r_st 0 hG Y Y Y Y Y Y Y r | refine r_st 1 hG Y Y Y Y Y Y Y r | refine r_st 2 hG Y Y Y Y Y Y Y r | refine r_st 3 hG Y Y Y Y Y Y Y r | refine r_st 4 hG Y Y Y Y Y Y Y r | refine r_st 5 hG Y Y Y Y Y Y Y r | refine r_st 6 hG Y Y Y Y Y Y Y r | refine r_st 7 hG Y Y Y Y Y Y Y r | refine r_stM hG Y Y hs Y Y Y (by exact Y) r)
    | (show AOp _ _ ⟨_, .call ⟨.builtin .min, _, _⟩, _, _, _, _⟩ _ _ _; first | refine op_minl Y Y Y (by omega) Y Y r | refine op_minr Y Y Y (by omega) Y Y r | refine op_min Y Y Y Y Y r)
    | refine r_q hG Y Y Y r)
  | refine al_s Y Y Y r
  | (refine al_nil ?_; first | (show AW _ _ _ _ _ _; exact r) | (show ∃ x', _ < _ ∧ _; exact r))) : AL P N ops Q k os a σ := h r
theorem do3 (r : R) (h : R → DL P N ops Q σ os a := by
  intro r
  first
  | (refine' Ap Y Y (fun K kk => ?_) r; (try (show Go.Ts.T; rotate_left)); (first
    | (show AOp _ _ ⟨_, .move _, _, _, _, _⟩ _ _ _; refine r_move hG Y Y ?_)
    | (show AOp _ _ ⟨_, .assign _, _, _, _, _⟩ _ _ _; refine r_asg hG Y Y ?_)
    | (show AOp _ _ ⟨_, .call ⟨.builtin .len, _, _⟩, _, _, _, _⟩ _ _ _; first | refine r_lenm hG Y Y Y Y ?_ | refine r_len hG Y Y Y Y Y ?_)
    | (show AOp _ _ ⟨_, .lookup _ _ _ _, _, _, _, _⟩ _ _ _; first | refine r_lookF hG Y Y Y Y Y Y Y Y Y ?_ | refine r_lookFo hG Y Y Y Y Y Y Y Y Y ?_ | refine r_lookL (n := 0) hG Y Y Y Y Y Y Y Y Y Y ?_ | refine r_lookL (n := 1) hG Y Y Y Y Y Y Y Y Y Y ?_)
    | (show AOp _ _ ⟨_, .binOp .or _ _ _ _, _, _, _, _⟩ _ _ _; refine r_orU hG Y Y Y Y (by omega) ?_)
    | (show AOp _ _ ⟨_, .binOp .add _ _ _ _, _, _, _, _⟩ _ _ _; first | refine Ah hG Y Y Y Y Y (by omega) ?_ | refine Ah (m := 1) hG Y Y Y Y Y (by omega) ?_ | refine Ah (m := 2) hG Y Y Y Y Y (by omega) ?_ | refine Ah (m := 3) hG Y Y Y Y Y (by omega) ?_ | refine Ah (m := 4) hG Y Y Y Y Y (by omega) ?_ | refine Ah (m := 8) hG Y Y Y Y Y (by omega) ?_ | refine Ah (m := 16) hG Y Y Y Y Y (by omega) ?_ | refine Ah (n := 2) hG Y Y Y Y Y (by omega) ?_ | refine Ah (n := 16) hG Y Y Y Y Y (by omega) ?_ | refine Ao hG Y Y Y Y Y (by omega) ?_ | refine Bf hG Y Y Y Y Y (by omega) ?_ | refine r_aru8 hG Y Y Y Y Y (by omega) ?_ | refine r_aru16 hG Y Y Y Y Y (by omega) ?_)
    | (show AOp _ _ ⟨_, .binOp .sub _ _ _ _, _, _, _, _⟩ _ _ _; first | refine A8 hG Y Y Y Y (by omega) ?_ | refine A8 (m := 1) hG Y Y Y Y (by omega) ?_ | refine r_subU (m := 1) hG Y Y Y Y (by omega) ?_ | refine Ao hG Y Y Y Y Y (by omega) ?_ | refine Bf hG Y Y Y Y Y (by omega) ?_ | refine r_aru8 hG Y Y Y Y Y (by omega) ?_ | refine r_aru16 hG Y Y Y Y Y (by omega) ?_)
    | (show AOp _ _ ⟨_, .binOp .mul _ _ _ _, _, _, _, _⟩ _ _ _; first | refine Ah hG Y Y Y Y Y (by omega) ?_ | refine Ah (m := 1) hG Y Y Y Y Y (by omega) ?_ | refine Ah (m := 2) hG Y Y Y Y Y (by omega) ?_ | refine Ah (m := 3) hG Y Y Y Y Y (by omega) ?_ | refine Ah (m := 4) hG Y Y Y Y Y (by omega) ?_ | refine Ah (m := 8) hG Y Y Y Y Y (by omega) ?_ | refine Ah (m := 16) hG Y Y Y Y Y (by omega) ?_ | refine Ah (n := 2) hG Y Y Y Y Y (by omega) ?_ | refine Ah (n := 16) hG Y Y Y Y Y (by omega) ?_ | refine Ao hG Y Y Y Y Y (by omega) ?_ | refine Bf hG Y Y Y Y Y (by omega) ?_ | refine r_aru8 hG Y Y Y Y Y (by omega) ?_ | refine r_aru16 hG Y Y Y Y Y (by omega) ?_)
    | (show AOp _ _ ⟨_, .binOp .quo _ _ _ _, _, _, _, _⟩ _ _ _; first | refine A2 (m := 2) hG Y Y Y Y (by omega) ?_ | refine A2 (m := 4) hG Y Y Y Y (by omega) ?_ | refine A2 (m := 8) hG Y Y Y Y (by omega) ?_ | refine A2 (m := 16) hG Y Y Y Y (by omega) ?_ | refine A2 (m := 64) hG Y Y Y Y (by omega) ?_ | refine A2 (m := 16) hG Y Y Y Y (by omega) ?_)
    | (show AOp _ _ ⟨_, .binOp .shr _ _ _ _, _, _, _, _⟩ _ _ _; refine r_shrU hG Y Y Y Y (by omega) ?_)
    | (show AOp _ _ ⟨_, .binOp .shl _ _ _ _, _, _, _, _⟩ _ _ _; refine r_shlU hG Y Y Y Y (by omega) ?_)
    | (show AOp _ _ ⟨_, .binOp .xor _ _ _ _, _, _, _, _⟩ _ _ _; refine r_xorU hG Y Y Y Y (by omega) ?_)
    | (show AOp _ _ ⟨_, .binOp .and _ _ _ _, _, _, _, _⟩ _ _ _; first | refine r_andU hG Y Y Y Y (by omega) ?_ | refine r_andU (m := 63) hG Y Y Y Y (by omega) ?_)
    | (show AOp _ _ ⟨_, .binOp .shr _ _ _ _, _, _, _, _⟩ _ _ _; refine r_shr hG Y Y Y Y (by omega) ?_)
    | (show AOp _ _ ⟨_, .binOp .shl _ _ _ _, _, _, _, _⟩ _ _ _; refine r_shl hG Y Y Y Y (by omega) ?_)
    | (show AOp _ _ ⟨_, .binOp .rem _ _ _ _, _, _, _, _⟩ _ _ _; first | refine r_rem hG Y Y Y Y (by omega) ?_ | refine r_trem hG Y Y Y Y (by omega) ?_)
    | (show AOp _ _ ⟨_, .binOp .and _ _ _ _, _, _, _, _⟩ _ _ _; refine r_and63 hG Y Y (by omega) Y ?_)
    | (show AOp _ _ ⟨_, .binOp _ _ _ _ _, _, _, _, _⟩ _ _ _; first | refine r_cmpT hG Y Y Y Y Y (by omega) ?_ | refine r_cmpF hG Y Y Y Y Y (by omega) ?_ | refine r_strT hG Y Y Y Y (by first | rfl | assumption) ?_ | refine r_strnF hG Y Y Y Y (by first | rfl | assumption) ?_ | refine r_strF hG Y Y Y Y (by assumption) ?_ | refine r_strnT hG Y Y Y Y (by assumption) ?_ | refine r_beq hG Y Y Y Y Y ?_ | refine r_bin' hG Y Y Y ?_ | refine r_binP hG Y Y Y Y ?_)
    | (show AOp _ _ ⟨_, .load _ _, _, _, _, _⟩ _ _ _; first | refine Ar (α := Nat) 0 hG Y Y Y Y (by omega) Y ?_ | refine Ar (α := Nat) 1 hG Y Y Y Y (by omega) Y ?_ | refine r_ldro hG Y Y Y ?_ | refine r_ld 0 hG Y Y Y Y ?_ | refine r_ld 1 hG Y Y Y Y ?_ | refine r_ld 2 hG Y Y Y Y ?_ | refine r_ld 3 hG Y Y Y Y ?_ | refine r_ld 4 hG Y Y Y Y ?_ | refine r_ld 5 hG Y Y Y Y ?_ | refine r_ld 6 hG Y Y Y Y ?_ | refine r_ld 7 hG Y Y Y Y ?_ | refine r_ldM hG Y hs (by exact Y) Y ?_)
    | (show AOp _ _ ⟨_, .indexAddr _ _ _, _, _, _, _⟩ _ _ _; first | refine r_idxL hG Y Y Y Y Y Y Y (by omega) ?_ | refine r_idx0 hG Y Y Y Y Y Y Y ?_ | refine r_idxn hG Y Y Y Y Y Y Y (by omega) ?_ | refine r_idxm hG Y Y Y Y Y Y Y (by omega) ?_ | refine r_idx hG Y Y ?_)
    | (show AOp _ _ ⟨_, .convert _ _ _, _, _, _, _⟩ _ _ _; first | refine r_tostr hG Y Y Y Y Y Y Y Y (by first | exact Bd _ _ | exact bytesT_s _ | rfl) ?_ | refine r_cv8 hG Y Y Y Y Y Y ?_ | refine r_cv16 hG Y Y Y Y Y Y ?_ | refine r_cv_i64 hG Y Y Y Y Y (by omega) ?_ | refine r_cv_u64 hG Y Y Y Y Y (by omega) ?_ | refine r_cv_u8 hG Y Y Y Y Y (by omega) ?_ | refine r_cv_u16 hG Y Y Y Y Y (by omega) ?_ | refine r_cvw hG Y Y Y Y Y ?_)
    | (show AOp _ _ ⟨_, .slice _ _ _ _ _, _, _, _, _⟩ _ _ _; first | refine r_sl_lon hG Y Y Y Y Y Y Y (by omega) ?_ | refine r_sl_hin hG Y Y Y Y Y Y Y (by omega) ?_ | refine r_sl_lhn hG Y Y Y Y Y Y Y Y (by omega) ?_ | refine r_sl_lo hG Y Y Y Y Y Y Y (by omega) ?_ | refine r_sl_hi hG Y Y Y Y Y Y Y (by omega) ?_ | refine r_sl_lh hG Y Y Y Y Y Y Y Y (by omega) ?_ | refine op_cut0 hG Y Y Y Y Y Y Y Y Y Y ?_ | refine r_sl hG Y Y ?_)
    | (show AOp _ _ ⟨_, .pick _ _ _, _, _, _, _⟩ _ _ _; refine r_pick hG Y Y Y ?_)
    | (show AOp _ _ ⟨_, .unOp _ _ _, _, _, _, _⟩ _ _ _; refine r_not hG Y Y Y ?_)
    | (show AOp _ _ ⟨_, .buildSlice _ _ _, _, _, _, _⟩ _ _ _; first | refine r_mk (sz := 1) hG Y Y Y Y Y Y Y ?_ | refine r_mk (sz := 2) hG Y Y Y Y Y Y Y ?_ | refine r_mk (sz := 3) hG Y Y Y Y Y Y Y ?_ | refine r_mk (sz := 4) hG Y Y Y Y Y Y Y ?_ | refine r_mk (sz := 12) hG Y Y Y Y Y Y Y ?_ | refine r_mk (sz := 13) hG Y Y Y Y Y Y Y ?_ | refine r_mk (sz := 17) hG Y Y Y Y Y Y Y ?_)
    | (show AOp _ _ ⟨_, .build _ _, _, _, _, _⟩ _ _ _; refine r_build hG Y Y Y Y Y ?_)
    | (show AOp _ _ ⟨_, .call ⟨.builtin .min, _, _⟩, _, _, _, _⟩ _ _ _; first | refine op_minl Y Y Y (by omega) Y Y ?_ | refine op_minr Y Y Y (by omega) Y Y ?_ | refine op_min Y Y Y Y Y ?_)
    | refine r_q hG Y Y Y ?_); exact kk)
  | exact And.elim (fun x y => dl_d Y Y (fun K kt kf => r_cmp hG Y Y Y Y Y kt kf) x y) r
  | exact And.elim (fun x y => dl_d Y Y (fun K kt kf => r_str hG Y Y Y Y kt kf) x y) r
  | exact And.elim (fun x y => dl_ne Y Y (fun K kt kf => r_strn hG Y Y Y Y kt kf) x y) r
  | refine dl_s Y Y Y r
  | (refine dl_nil ?_; first | (show AW _ _ _ _ _ _; exact r) | (show ∃ x', _ < _ ∧ _; exact r))) : DL P N ops Q σ os a := h r
theorem so4 (r : R) (h : R → AL P N ops Q k os a σ := by
  intro r
  first
  | (refine Ac Y ?_; first
    | (show AOp _ _ ⟨_, .move _, _, _, _, _⟩ _ _ _; refine r_move hG Y Y r)
    | (show AOp _ _ ⟨_, .assign _, _, _, _, _⟩ _ _ _; refine r_asg hG Y Y r)
    | (show AOp _ _ ⟨_, .call ⟨.builtin .len, _, _⟩, _, _, _, _⟩ _ _ _; first | refine r_lenm hG Y Y Y Y r | refine r_len hG Y Y Y Y Y r)
    | (show AOp _ _ ⟨_, .binOp .add _ _ _ _, _, _, _, _⟩ _ _ _; first | refine Ah hG Y Y Y Y Y (by omega) r | refine Ah (m := 1) hG Y Y Y Y Y (by omega) r | refine Ah (m := 2) hG Y Y Y Y Y (by omega) r | refine Ah (m := 3) hG Y Y Y Y Y (by omega) r | refine Ah (m := 4) hG Y Y Y Y Y (by omega) r | refine Ah (m := 8) hG Y Y Y Y Y (by omega) r | refine Ah (m := 16) hG Y Y Y Y Y (by omega) r | refine Ah (n := 2) hG Y Y Y Y Y (by omega) r | refine Ah (n := 16) hG Y Y Y Y Y (by omega) r | refine Ao hG Y Y Y Y Y (by omega) r | refine Bf hG Y Y Y Y Y (by omega) r | refine r_aru8 hG Y Y Y Y Y (by omega) r | refine r_aru16 hG Y Y Y Y Y (by omega) r)
    | (show AOp _ _ ⟨_, .binOp .sub _ _ _ _, _, _, _, _⟩ _ _ _; first | refine A8 hG Y Y Y Y (by omega) r | refine A8 (m := 1) hG Y Y Y Y (by omega) r | refine Ao hG Y Y Y Y Y (by omega) r | refine Bf hG Y Y Y Y Y (by omega) r | refine r_aru8 hG Y Y Y Y Y (by omega) r | refine r_aru16 hG Y Y Y Y Y (by omega) r)
    | (show AOp _ _ ⟨_, .binOp .mul _ _ _ _, _, _, _, _⟩ _ _ _; first | refine Ah hG Y Y Y Y Y (by omega) r | refine Ah (m := 1) hG Y Y Y Y Y (by omega) r | refine Ah (m := 2) hG Y Y Y Y Y (by omega) r | refine Ah (m := 3) hG Y Y Y Y Y (by omega) r | refine Ah (m := 4) hG Y Y Y Y Y (by omega) r | refine Ah (m := 8) hG Y Y Y Y Y (by omega) r | refine Ah (m := 16) hG Y Y Y Y Y (by omega) r | refine Ah (n := 2) hG Y Y Y Y Y (by omega) r | refine Ah (n := 16) hG Y Y Y Y Y (by omega) r | refine Ao hG Y Y Y Y Y (by omega) r | refine Bf hG Y Y Y Y Y (by omega) r | refine r_aru8 hG Y Y Y Y Y (by omega) r | refine r_aru16 hG Y Y Y Y Y (by omega) r)
    | (show AOp _ _ ⟨_, .binOp .quo _ _ _ _, _, _, _, _⟩ _ _ _; first | refine A2 (m := 2) hG Y Y Y Y (by omega) r | refine A2 (m := 4) hG Y Y Y Y (by omega) r | refine A2 (m := 8) hG Y Y Y Y (by omega) r | refine A2 (m := 16) hG Y Y Y Y (by omega) r | refine A2 (m := 64) hG Y Y Y Y (by omega) r | refine A2 (m := 16) hG Y Y Y Y (by omega) r)
    | (show AOp _ _ ⟨_, .binOp .shr _ _ _ _, _, _, _, _⟩ _ _ _; refine r_shr hG Y Y Y Y (by omega) r)
    | (show AOp _ _ ⟨_, .binOp .shl _ _ _ _, _, _, _, _⟩ _ _ _; refine r_shl hG Y Y Y Y (by omega) r)
    | (show AOp _ _ ⟨_, .binOp .rem _ _ _ _, _, _, _, _⟩ _ _ _; first | refine r_rem hG Y Y Y Y (by omega) r | refine r_trem hG Y Y Y Y (by omega) r)
    | (show AOp _ _ ⟨_, .binOp .and _ _ _ _, _, _, _, _⟩ _ _ _; refine r_and63 hG Y Y (by omega) Y r)
    | (show AOp _ _ ⟨_, .binOp _ _ _ _ _, _, _, _, _⟩ _ _ _; first | refine r_cmpT hG Y Y Y Y Y (by omega) r | refine r_cmpF hG Y Y Y Y Y (by omega) r | refine r_strT hG Y Y Y Y (by first | rfl | assumption) r | refine r_strnF hG Y Y Y Y (by first | rfl | assumption) r | refine r_strF hG Y Y Y Y (by assumption) r | refine r_strnT hG Y Y Y Y (by assumption) r | exact And.elim (fun x y => r_cmp hG Y Y Y Y Y x y) r | exact And.elim (fun x y => r_str hG Y Y Y Y x y) r | exact And.elim (fun x y => r_strn hG Y Y Y Y x y) r | refine r_beq hG Y Y Y Y Y r | refine r_bin' hG Y Y Y r | refine r_binP hG Y Y Y Y r)
    | (show AOp _ _ ⟨_, .load _ _, _, _, _, _⟩ _ _ _; first | refine Ar (α := Nat) 0 hG Y Y Y Y (by omega) Y r | refine r_ldro hG Y Y Y r | refine r_ld 0 hG Y Y Y Y r | refine r_ld 1 hG Y Y Y Y r | refine r_ld 2 hG Y Y Y Y r | refine r_ld 3 hG Y Y Y Y r | refine r_ld 4 hG Y Y Y Y r | refine r_ld 5 hG Y Y Y Y r | refine r_ld 6 hG Y Y Y Y r | refine r_ld 7 hG Y Y Y Y r | refine r_ldM hG Y hs (by exact Y) Y r)
    | (show AOp _ _ ⟨_, .indexAddr _ _ _, _, _, _, _⟩ _ _ _; first | refine r_idxL hG Y Y Y Y Y Y Y (by omega) r | refine r_idx0 hG Y Y Y Y Y Y Y r | refine r_idxn hG Y Y Y Y Y Y Y (by omega) r | refine r_idxm hG Y Y Y Y Y Y Y (by omega) r | refine r_idx hG Y Y r)
    | (show AOp _ _ ⟨_, .convert _ _ _, _, _, _, _⟩ _ _ _; first | refine r_tostr hG Y Y Y Y Y Y Y Y (by first | exact Bd _ _ | exact bytesT_s _ | rfl) r | refine r_cv8 hG Y Y Y Y Y Y r | refine r_cv16 hG Y Y Y Y Y Y r | refine r_cv_i64 hG Y Y Y Y Y (by omega) r | refine r_cv_u64 hG Y Y Y Y Y (by omega) r | refine r_cv_u8 hG Y Y Y Y Y (by omega) r | refine r_cv_u16 hG Y Y Y Y Y (by omega) r | refine r_cvw hG Y Y Y Y Y r)
    | (show AOp _ _ ⟨_, .slice _ _ _ _ _, _, _, _, _⟩ _ _ _; first | refine r_sl_lon hG Y Y Y Y Y Y Y (by omega) r | refine r_sl_hin hG Y Y Y Y Y Y Y (by omega) r | refine r_sl_lhn hG Y Y Y Y Y Y Y Y (by omega) r | refine r_sl_lo hG Y Y Y Y Y Y Y (by omega) r | refine r_sl_hi hG Y Y Y Y Y Y Y (by omega) r | refine r_sl_lh hG Y Y Y Y Y Y Y Y (by omega) r | refine op_cut0 hG Y Y Y Y Y Y Y Y Y Y r | refine r_sl hG Y Y r)
    | (show AOp _ _ ⟨_, .pick _ _ _, _, _, _, _⟩ _ _ _; refine r_pick hG Y Y Y r)
    | (show AOp _ _ ⟨_, .unOp _ _ _, _, _, _, _⟩ _ _ _; refine r_not hG Y Y Y r)
    | (show AOp _ _ ⟨_, .buildSlice _ _ _, _, _, _, _⟩ _ _ _; first | refine r_mk (sz := 1) hG Y Y Y Y Y Y Y r | refine r_mk (sz := 2) hG Y Y Y Y Y Y Y r | refine r_mk (sz := 3) hG Y Y Y Y Y Y Y r | refine r_mk (sz := 4) hG Y Y Y Y Y Y Y r | refine r_mk (sz := 12) hG Y Y Y Y Y Y Y r | refine r_mk (sz := 13) hG Y Y Y Y Y Y Y r | refine r_mk (sz := 17) hG Y Y Y Y Y Y Y r)
    | (show AOp _ _ ⟨_, .build _ _, _, _, _, _⟩ _ _ _; refine r_build hG Y Y Y Y Y r)
    | (show AOp _ _ ⟨_, .store _ _ _, _, _, _, _⟩ _ _ _; first | refine At (α := Nat) 0 hG Y Y Y Aj Aw Y Y (by first | omega | (simp only [Array.size_setIfInBounds]; omega)) r | refine r_st 0 hG Y Y Y Y Y Y Y r | refine r_st 1 hG Y Y Y Y Y Y Y r | refine r_st 2 hG Y Y Y Y Y Y Y r | refine r_st 3 hG Y Y Y Y Y Y Y r | refine r_st 4 hG Y Y Y Y Y Y Y r | refine r_st 5 hG Y Y Y Y Y Y Y r | refine r_st 6 hG Y Y Y Y Y Y Y r | refine r_st 7 hG Y Y Y Y Y Y Y r | refine r_stM hG Y Y hs Y Y Y (by exact Y) r)
    | (show AOp _ _ ⟨_, .call ⟨.builtin .min, _, _⟩, _, _, _, _⟩ _ _ _; first | refine op_minl Y Y Y (by omega) Y Y r | refine op_minr Y Y Y (by omega) Y Y r | refine op_min Y Y Y Y Y r)
    | refine r_q hG Y Y Y r)
  | refine al_s Y Y Y r
  | (refine al_nil ?_; first | (show AW _ _ _ _ _ _; exact r) | (show ∃ x', _ < _ ∧ _; exact r))) : AL P N ops Q k os a σ := h r
theorem do4 (r : R) (h : R → DL P N ops Q σ os a := by
  intro r
  first
  | (refine' Ap Y Y (fun K kk => ?_) r; (try (show Go.Ts.T; rotate_left)); (first
    | (show AOp _ _ ⟨_, .move _, _, _, _, _⟩ _ _ _; refine r_move hG Y Y ?_)
    | (show AOp _ _ ⟨_, .assign _, _, _, _, _⟩ _ _ _; refine r_asg hG Y Y ?_)
    | (show AOp _ _ ⟨_, .call ⟨.builtin .len, _, _⟩, _, _, _, _⟩ _ _ _; first | refine r_lenm hG Y Y Y Y ?_ | refine r_len hG Y Y Y Y Y ?_)
    | (show AOp _ _ ⟨_, .binOp .add _ _ _ _, _, _, _, _⟩ _ _ _; first | refine Ah hG Y Y Y Y Y (by omega) ?_ | refine Ah (m := 1) hG Y Y Y Y Y (by omega) ?_ | refine Ah (m := 2) hG Y Y Y Y Y (by omega) ?_ | refine Ah (m := 3) hG Y Y Y Y Y (by omega) ?_ | refine Ah (m := 4) hG Y Y Y Y Y (by omega) ?_ | refine Ah (m := 8) hG Y Y Y Y Y (by omega) ?_ | refine Ah (m := 16) hG Y Y Y Y Y (by omega) ?_ | refine Ah (n := 2) hG Y Y Y Y Y (by omega) ?_ | refine Ah (n := 16) hG Y Y Y Y Y (by omega) ?_ | refine Ao hG Y Y Y Y Y (by omega) ?_ | refine Bf hG Y Y Y Y Y (by omega) ?_ | refine r_aru8 hG Y Y Y Y Y (by omega) ?_ | refine r_aru16 hG Y Y Y Y Y (by omega) ?_)
    | (show AOp _ _ ⟨_, .binOp .sub _ _ _ _, _, _, _, _⟩ _ _ _; first | refine A8 hG Y Y Y Y (by omega) ?_ | refine A8 (m := 1) hG Y Y Y Y (by omega) ?_ | refine Ao hG Y Y Y Y Y (by omega) ?_ | refine Bf hG Y Y Y Y Y (by omega) ?_ | refine r_aru8 hG Y Y Y Y Y (by omega) ?_ | refine r_aru16 hG Y Y Y Y Y (by omega) ?_)
    | (show AOp _ _ ⟨_, .binOp .mul _ _ _ _, _, _, _, _⟩ _ _ _; first | refine Ah hG Y Y Y Y Y (by omega) ?_ | refine Ah (m := 1) hG Y Y Y Y Y (by omega) ?_ | refine Ah (m := 2) hG Y Y Y Y Y (by omega) ?_ | refine Ah (m := 3) hG Y Y Y Y Y (by omega) ?_ | refine Ah (m := 4) hG Y Y Y Y Y (by omega) ?_ | refine Ah (m := 8) hG Y Y Y Y Y (by omega) ?_ | refine Ah (m := 16) hG Y Y Y Y Y (by omega) ?_ | refine Ah (n := 2) hG Y Y Y Y Y (by omega) ?_ | refine Ah (n := 16) hG Y Y Y Y Y (by omega) ?_ | refine Ao hG Y Y Y Y Y (by omega) ?_ | refine Bf hG Y Y Y Y Y (by omega) ?_ | refine r_aru8 hG Y Y Y Y Y (by omega) ?_ | refine r_aru16 hG Y Y Y Y Y (by omega) ?_)
    | (show AOp _ _ ⟨_, .binOp .quo _ _ _ _, _, _, _, _⟩ _ _ _; first | refine A2 (m := 2) hG Y Y Y Y (by omega) ?_ | refine A2 (m := 4) hG Y Y Y Y (by omega) ?_ | refine A2 (m := 8) hG Y Y Y Y (by omega) ?_ | refine A2 (m := 16) hG Y Y Y Y (by omega) ?_ | refine A2 (m := 64) hG Y Y Y Y (by omega) ?_ | refine A2 (m := 16) hG Y Y Y Y (by omega) ?_)
    | (show AOp _ _ ⟨_, .binOp .shr _ _ _ _, _, _, _, _⟩ _ _ _; refine r_shr hG Y Y Y Y (by omega) ?_)
    | (show AOp _ _ ⟨_, .binOp .shl _ _ _ _, _, _, _, _⟩ _ _ _; refine r_shl hG Y Y Y Y (by omega) ?_)
    | (show AOp _ _ ⟨_, .binOp .rem _ _ _ _, _, _, _, _⟩ _ _ _; first | refine r_rem hG Y Y Y Y (by omega) ?_ | refine r_trem hG Y Y Y Y (by omega) ?_)
    | (show AOp _ _ ⟨_, .binOp .and _ _ _ _, _, _, _, _⟩ _ _ _; refine r_and63 hG Y Y (by omega) Y ?_)
    | (show AOp _ _ ⟨_, .binOp _ _ _ _ _, _, _, _, _⟩ _ _ _; first | refine r_cmpT hG Y Y Y Y Y (by omega) ?_ | refine r_cmpF hG Y Y Y Y Y (by omega) ?_ | refine r_strT hG Y Y Y Y (by first | rfl | assumption) ?_ | refine r_strnF hG Y Y Y Y (by first | rfl | assumption) ?_ | refine r_strF hG Y Y Y Y (by assumption) ?_ | refine r_strnT hG Y Y Y Y (by assumption) ?_ | refine r_beq hG Y Y Y Y Y ?_ | refine r_bin' hG Y Y Y ?_ | refine r_binP hG Y Y Y Y ?_)
    | (show AOp _ _ ⟨_, .load _ _, _, _, _, _⟩ _ _ _; first | refine Ar (α := Nat) 0 hG Y Y Y Y (by omega) Y ?_ | refine r_ldro hG Y Y Y ?_ | refine r_ld 0 hG Y Y Y Y ?_ | refine r_ld 1 hG Y Y Y Y ?_ | refine r_ld 2 hG Y Y Y Y ?_ | refine r_ld 3 hG Y Y Y Y ?_ | refine r_ld 4 hG Y Y Y Y ?_ | refine r_ld 5 hG Y Y Y Y ?_ | refine r_ld 6 hG Y Y Y Y ?_ | refine r_ld 7 hG Y Y Y Y ?_ | refine r_ldM hG Y hs (by exact Y) Y ?_)
    | (show AOp _ _ ⟨_, .indexAddr _ _ _, _, _, _, _⟩ _ _ _; first | refine r_idxL hG Y Y Y Y Y Y Y (by omega) ?_ | refine r_idx0 hG Y Y Y Y Y Y Y ?_ | refine r_idxn hG Y Y Y Y Y Y Y (by omega) ?_ | refine r_idxm hG Y Y Y Y Y Y Y (by omega) ?_ | refine r_idx hG Y Y ?_)
    | (show AOp _ _ ⟨_, .convert _ _ _, _, _, _, _⟩ _ _ _; first | refine r_tostr hG Y Y Y Y Y Y Y Y (by first | exact Bd _ _ | exact bytesT_s _ | rfl) ?_ | refine r_cv8 hG Y Y Y Y Y Y ?_ | refine r_cv16 hG Y Y Y Y Y Y ?_ | refine r_cv_i64 hG Y Y Y Y Y (by omega) ?_ | refine r_cv_u64 hG Y Y Y Y Y (by omega) ?_ | refine r_cv_u8 hG Y Y Y Y Y (by omega) ?_ | refine r_cv_u16 hG Y Y Y Y Y (by omega) ?_ | refine r_cvw hG Y Y Y Y Y ?_)
    | (show AOp _ _ ⟨_, .slice _ _ _ _ _, _, _, _, _⟩ _ _ _; first | refine r_sl_lon hG Y Y Y Y Y Y Y (by omega) ?_ | refine r_sl_hin hG Y Y Y Y Y Y Y (by omega) ?_ | refine r_sl_lhn hG Y Y Y Y Y Y Y Y (by omega) ?_ | refine r_sl_lo hG Y Y Y Y Y Y Y (by omega) ?_ | refine r_sl_hi hG Y Y Y Y Y Y Y (by omega) ?_ | refine r_sl_lh hG Y Y Y Y Y Y Y Y (by omega) ?_ | refine op_cut0 hG Y Y Y Y Y Y Y Y Y Y ?_ | refine r_sl hG Y Y ?_)
    | (show AOp _ _ ⟨_, .pick _ _ _, _, _, _, _⟩ _ _ _; refine r_pick hG Y Y Y ?_)
    | (show AOp _ _ ⟨_, .unOp _ _ _, _, _, _, _⟩ _ _ _; refine r_not hG Y Y Y ?_)
    | (show AOp _ _ ⟨_, .buildSlice _ _ _, _, _, _, _⟩ _ _ _; first | refine r_mk (sz := 1) hG Y Y Y Y Y Y Y ?_ | refine r_mk (sz := 2) hG Y Y Y Y Y Y Y ?_ | refine r_mk (sz := 3) hG Y Y Y Y Y Y Y ?_ | refine r_mk (sz := 4) hG Y Y Y Y Y Y Y ?_ | refine r_mk (sz := 12) hG Y Y Y Y Y Y Y ?_ | refine r_mk (sz := 13) hG Y Y Y Y Y Y Y ?_ | refine r_mk (sz := 17) hG Y Y Y Y Y Y Y ?_)
    | (show AOp _ _ ⟨_, .build _ _, _, _, _, _⟩ _ _ _; refine r_build hG Y Y Y Y Y ?_)
    | (show AOp _ _ ⟨_, .call ⟨.builtin .min, _, _⟩, _, _, _, _⟩ _ _ _; first | refine op_minl Y Y Y (by omega) Y Y ?_ | refine op_minr Y Y Y (by omega) Y Y ?_ | refine op_min Y Y Y Y Y ?_)
    | refine r_q hG Y Y Y ?_); exact kk)
  | exact And.elim (fun x y => dl_d Y Y (fun K kt kf => r_cmp hG Y Y Y Y Y kt kf) x y) r
  | exact And.elim (fun x y => dl_d Y Y (fun K kt kf => r_str hG Y Y Y Y kt kf) x y) r
  | exact And.elim (fun x y => dl_ne Y Y (fun K kt kf => r_strn hG Y Y Y Y kt kf) x y) r
  | refine dl_s Y Y Y r
  | (refine dl_nil ?_; first | (show AW _ _ _ _ _ _; exact r) | (show ∃ x', _ < _ ∧ _; exact r))) : DL P N ops Q σ os a := h r
theorem ec (r : R) (h : R → EL P N ops F fin A is E σ := by
  intro r
  refine A1 (Cont.of Y hs) Y Y Y (fun K ke => ?_); refine r_alloc hG Y Y (fun i => ?_); refine ke _ _ ?_; exact r i) : EL P N ops F fin A is E σ := h r
theorem eqc (r : R) (h : R → EL P N ops F fin A is E σ := by
  intro r
  first
  | refine el_s (Cont.of Y hs) Y Y Y Y r
  | (refine el_nil (Cont.of Y hs) ?_; show AL _ _ _ _ _ _ _ _; exact r)) : EL P N ops F fin A is E σ := h r
theorem eq (r : R) (h : R → EL P N ops F fin A is E σ := by
  intro r
  first
  | refine el_s ⟨_, Y⟩ Y Y Y Y r
  | (refine el_nil ⟨_, Y⟩ ?_; show AL _ _ _ _ _ _ _ _; exact r)) : EL P N ops F fin A is E σ := h r
theorem sb (r : R) (h : R → AL P N ops Q k os a σ := by
  intro r
  refine Ac Y ?_; first | refine r_box hG Y Y Y r | refine r_alloc hG Y Y r) : AL P N ops Q k os a σ := h r
theorem sa (r : R) (h : R → AL P N ops Q k os a σ := by
  intro r
  refine Ac Y ?_; first | refine r_app0m (sz := 1) (xs := []) hG Y Y Y Y Y Y Y ⟨_, Y⟩ Y Y Y Y Y Y Y (by first | omega | (simp; omega)) r | refine r_appm 0 hG Y Y Y Y Y Y Y ⟨_, Y⟩ Y Y Y Y Y (by first | omega | (simp only [List.length_append, List.length_cons, List.length_nil]; omega)) r) : AL P N ops Q k os a σ := h r
theorem sc0 (r : R) (h : R → AW P N c Q a σ := by
  intro r
  first
  | (show AW _ _ (.seq _ _) _ _ _; refine aw_seq' r)
  | (show AW _ _ (.region _ _ false) _ _ _; refine aw_regL' r)
  | (show AW _ _ (.cond _ _ _) _ _ _; first | refine aw_if_t Y r | refine aw_if_f Y r)
  | (show AW _ _ (.skip) _ _ _; refine aw_skip ?_; first | (show AW _ _ _ _ _ _; exact r) | (show ∃ x', _ < _ ∧ _; exact r))
  | (show AW _ _ (.exit _) _ _ _; refine Be ?_; first | (show AW _ _ _ _ _ _; exact r) | (show ∃ x', _ < _ ∧ _; exact r))
  | (show AW _ _ (.goto _) _ _ _; refine aw_goto ?_; (try dsimp only [A7, Am, jumpA, noGotoA]); exact r)
  | (show AW _ _ (.block _ _) _ _ _; refine aw_block' r)
  | (show AW _ _ (.region _ _ true) _ _ _; refine aw_draw' mix (by kernel_rfl) r)
  | (show AW _ _ (.ret) _ _ _; refine aw_ret ?_; (try dsimp only [A7, Am, jumpA, noGotoA]); exact r)) : AW P N c Q a σ := h r
theorem sc1 (r : R) (h : R → AW P N c Q a σ := by
  intro r
  first
  | (show AW _ _ (.seq _ _) _ _ _; refine aw_seq' r)
  | (show AW _ _ (.region _ _ false) _ _ _; refine aw_regL' r)
  | (show AW _ _ (.cond _ _ _) _ _ _; first | refine aw_if_t Y r | refine aw_if_f Y r | exact And.elim (fun x y => aw_if Y x y) r)
  | (show AW _ _ (.skip) _ _ _; refine aw_skip ?_; first | (show AW _ _ _ _ _ _; exact r) | (show ∃ x', _ < _ ∧ _; exact r))
  | (show AW _ _ (.exit _) _ _ _; refine Be ?_; first | (show AW _ _ _ _ _ _; exact r) | (show ∃ x', _ < _ ∧ _; exact r))
  | (show AW _ _ (.goto _) _ _ _; refine aw_goto ?_; (try dsimp only [A7, Am, jumpA, noGotoA]); exact r)
  | (show AW _ _ (.block _ _) _ _ _; refine aw_block' r)
  | (show AW _ _ (.region _ _ true) _ _ _; refine aw_draw' mix (by kernel_rfl) r)
  | (show AW _ _ (.ret) _ _ _; refine aw_ret ?_; (try dsimp only [A7, Am, jumpA, noGotoA]); exact r)) : AW P N c Q a σ := h r
theorem sv0 (r : R) (h : R → AW P N c Q a σ := by
  intro r
  first
  | (show AW _ _ (.seq _ _) _ _ _; refine aw_seq' r)
  | (show AW _ _ (.region _ _ false) _ _ _; refine aw_regL' r)
  | (show AW _ _ (.cond _ _ _) _ _ _; first | refine aw_if_t Y r | refine aw_if_f Y r)
  | (show AW _ _ (.skip) _ _ _; refine aw_skip ?_; first | (show AW _ _ _ _ _ _; exact r) | (show ∃ x', _ < _ ∧ _; exact r))
  | (show AW _ _ (.exit _) _ _ _; refine Be ?_; first | (show AW _ _ _ _ _ _; exact r) | (show ∃ x', _ < _ ∧ _; exact r))
  | (show AW _ _ (.goto _) _ _ _; refine aw_goto ?_; (try dsimp only [A7, Am, jumpA, noGotoA]); exact r)
  | (show AW _ _ (.block _ _) _ _ _; refine aw_block' r)
  | (show AW _ _ (.region _ _ true) _ _ _; refine aw_draw' mix (by kernel_rfl) r)) : AW P N c Q a σ := h r
theorem sp {d : Tmp} {f : Operand} {args : Array Operand} {tys : Array TypeId} {g : FuncId} {caps ts us : List T} {r : T} (hg : Bb ops a ⟨some d, .call ⟨.value f, args, tys⟩, ty, pos, af, gd⟩ = some true)
    (hf : Ad a f = some (.fn (.func g) caps)) (ha : argsT a args.toList = some ts) (hu : ts ++ caps = us) (hd : Ai N (some d) = true) (hnx : σ.nx = none) (h : Pure P g us r) (k' : AL P N ops Q (k + 1) os (put a (some d) r) σ) :
    AL P N ops Q k (⟨some d, .call ⟨.value f, args, tys⟩, ty, pos, af, gd⟩ :: os) a σ := Ac hg (r_pure hf ha hu hd hnx h k')
theorem sO {d : Tmp} {f : Operand} {args : Array Operand} {tys : Array TypeId} {g : FuncId} {caps ts us : List T} {sz : Nat} {xs : List T} (hg : Bb ops a ⟨some d, .call ⟨.value f, args, tys⟩, ty, pos, af, gd⟩ = some true)
    (hf : Ad a f = some (.fn (.func g) caps)) (ha : argsT a args.toList = some ts) (hu : ts ++ caps = us) (hd : Ai N (some d) = true) (hnx : σ.nx = none) (h : Owns P g us sz xs)
    (k' : ∀ k1, AL P N ops Q (k + 1) os (put a (some d) (.sl sz (.tok k1) xs)) { σ with R := k1 :: σ.R }) : AL P N ops Q k (⟨some d, .call ⟨.value f, args, tys⟩, ty, pos, af, gd⟩ :: os) a σ := Ac hg (r_owns hf ha hu hd hnx h k')
theorem dp {d : Tmp} {f : Operand} {args : Array Operand} {tys : Array TypeId} {g : FuncId} {caps ts us : List T} {r : T} {a' : Env} (ha' : Ay a (Ax ops ⟨some d, .call ⟨.value f, args, tys⟩, ty, pos, af, gd⟩) = a')
    (hg : Bb ops a' ⟨some d, .call ⟨.value f, args, tys⟩, ty, pos, af, gd⟩ = some true) (hf : Ad a' f = some (.fn (.func g) caps)) (ha : argsT a' args.toList = some ts) (hu : ts ++ caps = us) (hd : Ai N (some d) = true) (hnx : σ.nx = none) (h : Pure P g us r)
    (k' : DL P N ops Q σ os (put a (some d) r)) : DL P N ops Q σ (⟨some d, .call ⟨.value f, args, tys⟩, ty, pos, af, gd⟩ :: os) a := by
  subst ha'
  exact Ap hg Y (fun K kk => r_pure hf ha hu hd hnx h kk) k'
end
end Go.Ts
namespace Go.Ts
section
variable {P : Program} {G : Nat → Option TI} {σ : St} {N : Nat} {a : Env} {α : Type}
theorem al_forget {Q : Exit → Env → St → Prop} {ops : Array Oper} {i : Nat} {os : List Oper} {b : Env} (k : Knows a b) (h : AL P N ops Q i os b σ) : AL P N ops Q i os a σ :=
  fun he av w μ hi hr => h he av w μ hi (hr.knows k)
theorem al_slot {Q : Exit → Env → St → Prop} {ops : Array Oper} {i : Nat} {os : List Oper} (j : Nat) {t u : T} (hg : get a j = some t) (hw : Wk t u) (h : AL P N ops Q i os ((j, u) :: a) σ) : AL P N ops Q i os a σ :=
  al_forget (.consW hg hw (.refl a)) h
theorem op_minl {K : Env → St → Prop} {o : Oper} {x y : Operand} {tys : Array TypeId} {k : IntKind} {m n : Int}
    (hop : o.op = .call { callee := .builtin .min, args := #[x, y], argTypes := tys }) (hx : Ad a x = some (.int k m)) (hy : Ad a y = some (.int k n)) (h : m ≤ n) {d : Tmp} (hdd : o.dst = some d) (hd : Ai N (some d) = true)
    (kk : K (put a (some d) (.int k m)) σ) : AOp P N o a σ K := by
  refine op_min hop hx hy hdd hd ?_
  rw [Int.min_eq_left h]; exact kk
theorem op_minr {K : Env → St → Prop} {o : Oper} {x y : Operand} {tys : Array TypeId} {k : IntKind} {m n : Int}
    (hop : o.op = .call { callee := .builtin .min, args := #[x, y], argTypes := tys }) (hx : Ad a x = some (.int k m)) (hy : Ad a y = some (.int k n)) (h : n ≤ m) {d : Tmp} (hdd : o.dst = some d) (hd : Ai N (some d) = true)
    (kk : K (put a (some d) (.int k n)) σ) : AOp P N o a σ K := by
  refine op_min hop hx hy hdd hd ?_
  rw [Int.min_eq_right h]; exact kk
end
end Go.Ts
namespace Go.Ts
section
variable {P : Program} {G : Nat → Option TI} {σ : St} {N : Nat} {a : Env}
def Mut (P : Program) (g : FuncId) (ts : List T) (cs : List T) (R : T → List T → Prop) : Prop :=
  ∀ off i, ACalls P g (.ptr i 0 :: ts) ⟨[(i, .cells cs)], [], off, none⟩ (fun u σ' => ∃ cs', σ' = ⟨[(i, .cells cs')], [], off, none⟩ ∧ R u cs')
theorem Mut.mono {g : FuncId} {ts cs : List T} {R R' : T → List T → Prop} (h : Mut P g ts cs R) (k : ∀ u cs', R u cs' → R' u cs') : Mut P g ts cs R' :=
  fun off i => (h off i).mono fun u σ' ⟨cs', h1, h2⟩ => ⟨cs', h1, k _ _ h2⟩
theorem Mut.calls {g : FuncId} {ts cs : List T} {R : T → List T → Prop} {i : Nat} {Lf : List (Nat × Ob)} (h : Mut P g ts cs R) (hnx : σ.nx = none) (hL : σ.L.Perm ((i, .cells cs) :: Lf)) {K : T → St → Prop}
    (k : ∀ u cs', R u cs' → K u { σ with L := (i, .cells cs') :: Lf }) : ACalls P g (.ptr i 0 :: ts) σ K := by
  refine (frame (Ls := [(i, .cells cs)]) (Lf := Lf) hL (R := fun u L R' => ∃ cs', L = [(i, .cells cs')] ∧ R' = [] ∧ R u cs') hnx fun off => (h off i).mono fun u σ' ⟨cs', h1, h2⟩ => by subst h1; exact ⟨rfl, cs', rfl, rfl, h2⟩).mono ?_
  rintro u σ' ⟨L', R', ⟨cs', rfl, rfl, hR⟩, rfl⟩
  obtain ⟨L, R1, off, nx⟩ := σ
  simp only at hnx; subst hnx
  exact k u cs' hR
theorem r_mut {K : Env → St → Prop} {f : Operand} {args : Array Operand} {tys : Array TypeId} {g : FuncId} {ts us cs : List T} {R : T → List T → Prop} {i : Nat} {Lf : List (Nat × Ob)} {d : Tmp} {ty : TypeId} {pos : String} {af : Array Edge} {gd : Option (Nat × Bool)}
    (hf : Ad a f = some (.fn (.func g) [])) (ha : argsT a args.toList = some us) (hu : us = .ptr i 0 :: ts) (hd : Ai N (some d) = true) (hnx : σ.nx = none) (hL : σ.L.Perm ((i, .cells cs) :: Lf))
    (h : Mut P g ts cs R) (k : ∀ r cs', R r cs' → K (put a (some d) r) { σ with L := (i, .cells cs') :: Lf }) : AOp P N ⟨some d, .call ⟨.value f, args, tys⟩, ty, pos, af, gd⟩ a σ K := by
  subst hu
  refine op_call rfl hf ha rfl hd ?_
  rw [List.append_nil]
  exact h.calls hnx hL k
theorem ret_mut (n : Nat) {rs : List ResultVar} {ts cs : List T} {r : T} {i : Nat} {R : T → List T → Prop} (h : ResRs G a σ rs ts) (hn : σ.L[n]? = some (i, .cells cs)) (hw : Wk (tup1 ts) r) (hnx : σ.nx = none) (hR : R r cs) :
    retA G rs (fun u σ' => ∃ cs', σ' = ⟨[(i, .cells cs')], [], σ.off, none⟩ ∧ R u cs') .ret a σ := by
  refine ⟨ts, h, ((conv_drop (L' := [(i, .cells cs)]) (R' := []) (List.singleton_sublist.2 (List.mem_of_getElem? hn)) (List.nil_sublist _) hw).cr ⟨cs, ?_, hR⟩)⟩
  rw [hnx]
def Mut2 (P : Program) (g : FuncId) (ts : List T) (cs ds : List T) (R : T → List T → List T → Prop) : Prop :=
  ∀ off i j, ACalls P g (.ptr i 0 :: .ptr j 0 :: ts) ⟨[(i, .cells cs), (j, .cells ds)], [], off, none⟩ (fun u σ' => ∃ cs' ds', σ' = ⟨[(i, .cells cs'), (j, .cells ds')], [], off, none⟩ ∧ R u cs' ds')
theorem Mut2.calls {g : FuncId} {ts cs ds : List T} {R : T → List T → List T → Prop} {i j : Nat} {Lf : List (Nat × Ob)} (h : Mut2 P g ts cs ds R) (hnx : σ.nx = none) (hL : σ.L.Perm ((i, .cells cs) :: (j, .cells ds) :: Lf)) {K : T → St → Prop}
    (k : ∀ u cs' ds', R u cs' ds' → K u { σ with L := (i, .cells cs') :: (j, .cells ds') :: Lf }) : ACalls P g (.ptr i 0 :: .ptr j 0 :: ts) σ K := by
  refine (frame (Ls := [(i, .cells cs), (j, .cells ds)]) (Lf := Lf) hL (R := fun u L R' => ∃ cs' ds', L = [(i, .cells cs'), (j, .cells ds')] ∧ R' = [] ∧ R u cs' ds') hnx fun off => (h off i j).mono fun u σ' ⟨cs', ds', h1, h2⟩ => by subst h1; exact ⟨rfl, cs', ds', rfl, rfl, h2⟩).mono ?_
  rintro u σ' ⟨L', R', ⟨cs', ds', rfl, rfl, hR⟩, rfl⟩
  obtain ⟨L, R1, off, nx⟩ := σ
  simp only at hnx; subst hnx
  exact k u cs' ds' hR
end
end Go.Ts
namespace Go.Ts
set_option linter.unusedSimpArgs false
set_option linter.unusedVariables false
section
variable {P : Program} {G : Nat → Option TI} {N : Nat} {σ : St}
def eaOK (ops : Array Oper) (eff ea : List Nat) : Bool := ea.all fun i => eff.all fun j => match ops[j]? with
  | some p => far ops 2 p i
  | none => false
def FI (ea : List Nat) (σ0 : St) (F : St → Prop) (i : Nat) (σ : St) : Prop := cond (memB i ea) (σ = σ0) (F σ)
def DQ0 (P : Program) (N : Nat) (ops : Array Oper) (eff ea : List Nat) (σ0 : St) (F : St → Prop) (Q : Env → Prop) : Nat → List Oper → Env → Prop
  | _, [], a => Q a
  | i, o :: os, a => cond (memB i eff) (DQ0 P N ops eff ea σ0 F Q (i + 1) os a) (∃ t, (∀ σ, FI ea σ0 F i σ → StepOK P N ops σ o (Ay a (Ax ops o)) t) ∧ DQ0 P N ops eff ea σ0 F Q (i + 1) os (put a o.dst t))
theorem dq_can0 {ops : Array Oper} {eff : List Nat} {F : St → Prop} {ea : List Nat} {σ0 : St} {Q : Env → Prop} : ∀ (os : List Oper) (i0 : Nat) (a : Env), DQ0 P N ops eff ea σ0 F Q i0 os a →
    ∃ rs : List T, rs.length = os.length ∧ (∀ (j : Nat) (o : Oper), os[j]? = some o → memB (i0 + j) eff = false → ∃ t, rs[j]? = some t ∧ ∀ σ, FI ea σ0 F (i0 + j) σ → StepOK P N ops σ o (Ay (A3 (blank eff i0 os) rs a j) (Ax ops o)) t) ∧ Q (A3 (blank eff i0 os) rs a os.length)
  | [], i0, a, h => ⟨[], rfl, fun j o ho => by simp at ho, by simpa [A3, DQ0, blank] using h⟩
  | o :: os, i0, a, h => by
    unfold DQ0 at h
    cases hb : memB i0 eff with
    | true =>
      rw [hb, cond_true] at h
      obtain ⟨rs, k1, k2, k3⟩ := dq_can0 os _ _ h
      refine ⟨.tup [] :: rs, by simp [k1], fun j o' ho' hj => ?_, by simpa [A3, blank, hb, put] using k3⟩
      cases j with
      | zero => simp [hb] at hj
      | succ j =>
        obtain ⟨t', h3, h4⟩ := k2 j o' (by simpa using ho') (by rwa [show i0 + 1 + j = i0 + (j + 1) by omega])
        exact ⟨t', by simpa using h3, by simpa [A3, blank, hb, put, show i0 + 1 + j = i0 + (j + 1) by omega] using h4⟩
    | false =>
      rw [hb, cond_false] at h
      obtain ⟨t, h1, h2⟩ := h
      obtain ⟨rs, k1, k2, k3⟩ := dq_can0 os _ _ h2
      refine ⟨t :: rs, by simp [k1], fun j o' ho' hj => ?_, by simpa [A3, blank, hb] using k3⟩
      cases j with
      | zero => simp at ho'; subst ho'; exact ⟨t, rfl, by simpa [A3, blank] using h1⟩
      | succ j =>
        obtain ⟨t', h3, h4⟩ := k2 j o' (by simpa using ho') (by rwa [show i0 + 1 + j = i0 + (j + 1) by omega])
        exact ⟨t', by simpa using h3, by simpa [A3, blank, hb, show i0 + 1 + j = i0 + (j + 1) by omega] using h4⟩

theorem wpAny_eff0 {os : List Oper} {m : Nat} {eff : List Nat} {F : St → Prop} {ea : List Nat} {fin : Env → St → Prop} {rs : List T} {a0 : Env} {Qc : Exit → Act → World → Prop} {w0 : World} {μ0 : Gh} {σ0 : St} (hm : m ≤ os.length) (hc : drawOKE ⟨os⟩ m eff = true) (hea : eaOK ⟨os⟩ eff ea = true) (hl : rs.length = (os.take m).length)
    (hs : ∀ (j : Nat) (o : Oper), (os.take m)[j]? = some o → memB j eff = false → ∃ t, rs[j]? = some t ∧ ∀ σ, FI ea σ0 F j σ → StepOK P N ⟨os⟩ σ o (Ay (A3 (blank eff 0 (os.take m)) rs a0 j) (Ax ⟨os⟩ o)) t)
    (hQ : ∀ av' w' μ' σ' a' listed, listed.size = os.length → (∀ i, listed.getD i false = true ↔ i < m) → Ev w0 μ0 σ0 w' μ' σ' → Inv w' μ' σ' → RelA w' μ' σ' N av' a' → fin a' σ' → wpAny P .any ⟨os⟩ Qc (os.length - m) listed av' w') :
    ∀ (fuel : Nat) (l es : List Nat) (E : Env) (σ : St) (listed : Array Bool) (av : Act) (w : World) (μ : Gh), l.Nodup → l.length = fuel → listed.size = os.length → (∀ i, i ∈ l ↔ i < m ∧ listed.getD i true = false) → (∀ i, listed.getD i false = true → i < m) →
      sortedB es = true → (∀ i, i ∈ es ↔ i ∈ eff ∧ listed.getD i false = false) → EL P N ⟨os⟩ F fin (A3 (blank eff 0 (os.take m)) rs a0 m) es E σ →
      ((∀ j, j ∈ eff → listed.getD j false = false) → σ = σ0) → Ev w0 μ0 σ0 w μ σ → EInv (os.take m) eff rs a0 N σ E listed av w μ → wpAny P .any ⟨os⟩ Qc (fuel + (os.length - m)) listed av w := by
  have htl : (os.take m).length = m := by rw [List.length_take]; omega
  have hbl : (blank eff 0 (os.take m)).length = m := by rw [blank_length, htl]
  unfold drawOKE at hc
  simp only [Bool.and_eq_true] at hc
  obtain ⟨⟨⟨hcp, hct0⟩, hcs⟩, hcm⟩ := hc
  have hct : ∀ (i : Nat) (o : Oper), m ≤ i → os[i]? = some o → (∀ e ∈ o.after.toList, Region.binds .any e = true → e.on < i) ∧ (i = m → ∀ j, j < m → hasEdge o j = true) ∧ (m < i → hasEdge o (i - 1) = true) := by
    intro i o hi ho
    have := tailOK_at hct0 (i - m) o (by rw [List.getElem?_drop, show m + (i - m) = i by omega]; exact ho)
    rw [show m + (i - m) = i by omega] at this
    exact ⟨this.1, fun h => this.2.1 (by omega), fun h => this.2.2 (by omega)⟩
  have heffm : ∀ i, i ∈ eff → i < m := fun i hi => by have := List.all_eq_true.1 hcm i hi; rwa [Nat.blt_eq] at this
  have hedge : ∀ (q : Oper) (j : Nat), hasEdge q j = true → ∃ e ∈ q.after.toList, Region.binds .any e = true ∧ e.on = j := by
    intro q j h
    obtain ⟨e, he, h2⟩ := List.any_eq_true.1 h
    simp only [Bool.and_eq_true] at h2
    exact ⟨e, he, h2.1, Nat.eq_of_beq_eq_true h2.2⟩
  -- what the canonical environment says of a slot
  have hcan : ∀ (i s : Nat) (t : T), i ≤ m → get (A3 (blank eff 0 (os.take m)) rs a0 i) s = some t →
      (∃ (j : Nat) (p : Oper), j < i ∧ memB j eff = false ∧ (os.take m)[j]? = some p ∧ p.dst = some s ∧ rs[j]? = some t) ∨ ((∀ (j : Nat) (p : Oper), j < i → memB j eff = false → (os.take m)[j]? = some p → p.dst ≠ some s) ∧ get a0 s = some t) := by
    intro i s t hi hg
    rcases get_envAt _ rs a0 i s t (by rw [hl, htl, hbl]) (by omega) hg with ⟨j, o, h1, h2, h3, h4⟩ | ⟨h1, h2⟩
    · left
      rw [blank_at, Nat.zero_add] at h2
      cases hp : (os.take m)[j]? with
      | none => rw [hp] at h2; cases h2
      | some p =>
        rw [hp, Option.map_some] at h2
        injection h2 with h2
        cases hb : memB j eff with
        | true => rw [hb, cond_true] at h2; subst h2; cases h3
        | false => rw [hb, cond_false] at h2; subst h2; exact ⟨j, p, h1, hb, hp, h3, h4⟩
    · refine .inr ⟨fun j p hj hb hp => ?_, h2⟩
      have := h1 j p hj (by rw [blank_at, Nat.zero_add, hp, Option.map_some, hb, cond_false])
      exact this
  intro fuel
  induction fuel with
  | zero =>
    intro l es E σ listed av w μ hn hlen hsz hmem hlm hso hes hel hst hev hd
    obtain rfl : l = [] := List.eq_nil_of_length_eq_zero hlen
    have hall : ∀ i, i < m → listed.getD i false = true := by
      intro i hi
      have h1 : ¬ listed.getD i true = false := fun h => by simpa using (hmem i).2 ⟨hi, h⟩
      simp only [Array.getD_eq_getD_getElem?, Array.getElem?_eq_getElem (show i < listed.size by omega), Option.getD_some] at h1 ⊢
      simpa using h1
    obtain rfl : es = [] := by
      cases es with
      | nil => rfl
      | cons i is =>
        obtain ⟨h1, h2⟩ := (hes i).1 (by simp)
        rw [hall i (heffm i h1)] at h2; cases h2
    rw [Nat.zero_add]
    refine hQ av w μ σ _ listed hsz (fun i => ⟨hlm i, hall i⟩) hev hd.inv ⟨hd.size, hd.defers, fun s t ht => ?_⟩ hel.2
    rw [get_append] at ht
    cases hE : get E s with
    | some u => rw [hE] at ht; injection ht with ht; subst ht; exact hd.effd s u hE
    | none =>
      rw [hE] at ht
      rcases hcan m s t (Nat.le_refl _) ht with ⟨j, p, h1, h2, h3, h4, h5⟩ | ⟨h1, h2⟩
      · exact hd.done j p s t (hall j h1) h2 h3 h4 h5
      · refine hd.base s t (fun j p hj hp hps => ?_) h2
        cases hb : memB j eff with
        | true => exact hd.ehas j p s hj hb hp hps hE
        | false => exact h1 j p (by have := (List.getElem?_eq_some_iff.1 hp).1; omega) hb hp hps
  | succ fuel ih =>
    intro l es E σ listed av w μ hn hlen hsz hmem hlm hso hes hel hst hev hd
    have hdef : ∀ i, i < os.length → listed.getD i true = listed.getD i false := by
      intro i hi
      simp only [Array.getD_eq_getD_getElem?, Array.getElem?_eq_getElem (show i < listed.size by omega), Option.getD_some]
    rw [show fuel + 1 + (os.length - m) = (fuel + (os.length - m)) + 1 by omega]
    refine ⟨fun hr => ?_, fun i hi => ?_⟩
    · exfalso
      obtain ⟨i, hil, him⟩ := minimal (l := l) (by intro h; subst h; simp at hlen)
      obtain ⟨h1, h2⟩ := (hmem i).1 hil
      have : i ∈ Region.ready .any ⟨os⟩ listed := by
        simp only [Region.ready, List.mem_filter, List.mem_range]
        refine ⟨by simp; omega, ?_⟩
        have hil2 : i < os.length := by omega
        have ho : (⟨os⟩ : Array Oper)[i]? = some os[i] := by simp [hil2]
        simp only [h2, ho, Option.map_some, Option.getD_some, Bool.not_false, Bool.true_and]
        rw [← Array.all_toList, List.all_eq_true]
        intro e he
        obtain ⟨k1, _⟩ := okE1_at hcp i os[i] (by rw [List.getElem?_take_of_lt h1, List.getElem?_eq_getElem (by omega)])
        cases hb : Region.binds .any e with
        | false => simp
        | true =>
          have := k1 e he hb
          have h3 : e.on < m := by omega
          have h4 : ¬ e.on ∈ l := fun h => by have := him _ h; omega
          have h5 : ¬ listed.getD e.on true = false := fun h => h4 ((hmem _).2 ⟨h3, h⟩)
          rw [hdef _ (by omega)] at h5
          simpa using h5
      rw [hr] at this; cases this
    · simp only [Region.ready, List.mem_filter, List.mem_range, Bool.and_eq_true] at hi
      obtain ⟨hi1, hi2, hi3⟩ := hi
      have hin0 : i < os.length := by simpa using hi1
      have hil : listed.getD i true = false := by simpa using hi2
      have hilf : listed.getD i false = false := by rw [← hdef i hin0]; exact hil
      obtain ⟨o, ho0⟩ : ∃ o, os[i]? = some o := ⟨_, List.getElem?_eq_getElem hin0⟩
      have ho' : (⟨os⟩ : Array Oper)[i]? = some o := by simpa using ho0
      simp only [ho', Option.map_some, Option.getD_some] at hi3
      rw [← Array.all_toList, List.all_eq_true] at hi3
      have hready : ∀ e ∈ o.after.toList, Region.binds .any e = true → listed.getD e.on false = true := by
        intro e he hb
        have := hi3 e he
        simpa [hb] using this
      have hre : ∀ j, hasEdge o j = true → listed.getD j false = true := by
        intro j hj
        obtain ⟨e, he, hb, hon⟩ := hedge o j hj
        exact hon ▸ hready e he hb
      have hin : i < m := by
        rcases Nat.lt_or_ge i m with h | h
        · exact h
        · exfalso
          obtain ⟨j, hj⟩ : ∃ j, j ∈ l := by cases l with | nil => simp at hlen | cons x l => exact ⟨x, by simp⟩
          obtain ⟨h1, h2⟩ := (hmem j).1 hj
          rcases Nat.lt_or_ge m i with h5 | h5
          · have := hre (i - 1) ((hct i o h ho0).2.2 h5)
            have := hlm (i - 1) this; omega
          · have := hre j ((hct i o h ho0).2.1 (by omega) j (by omega))
            rw [← hdef j (by omega), h2] at this; cases this
      have ho : (os.take m)[i]? = some o := by rw [List.getElem?_take_of_lt hin]; exact ho0
      obtain ⟨hk1, hk2⟩ := okE1_at hcp i o ho
      simp only [Nat.zero_add] at hk1 hk2
      have hpair : ∀ (j : Nat) (p : Oper), (os.take m)[j]? = some p → pairE ⟨os⟩ eff i j o p = true := fun j p hp => by simpa using okE2_at hk2 j p hp
      have hfar : ∀ (n : Nat) (q : Oper) (j : Nat), (∀ e ∈ q.after.toList, Region.binds .any e = true → e.on < m ∧ listed.getD e.on false = true) → far ⟨os⟩ n q j = true → listed.getD j false = true := by
        intro n
        induction n with
        | zero =>
          intro q j hq h
          obtain ⟨e, he, hb, hon⟩ := hedge q j h
          exact hon ▸ (hq e he hb).2
        | succ n ih =>
          intro q j hq h
          rw [far, Bool.or_eq_true] at h
          rcases h with h | h
          · obtain ⟨e, he, hb, hon⟩ := hedge q j h
            exact hon ▸ (hq e he hb).2
          · obtain ⟨e, he, h2⟩ := List.any_eq_true.1 h
            rw [Bool.and_eq_true] at h2
            obtain ⟨h3, h4⟩ := hq e he h2.1
            have h5 := h2.2
            split at h5
            · rename_i p hp
              have hp' : (os.take m)[e.on]? = some p := by rw [List.getElem?_take_of_lt h3]; simpa using hp
              refine ih p j (fun e' he' hb' => ⟨?_, hd.closed e.on p h4 hp' e' he' hb'⟩) h5
              obtain ⟨k1, _⟩ := okE1_at hcp e.on p hp'
              have := k1 e' he' hb'
              omega
            · cases h5
      have hreF : ∀ j, far ⟨os⟩ 2 o j = true → listed.getD j false = true := fun j hj => hfar 2 o j (fun e he hb => ⟨by have := hk1 e he hb; omega, hready e he hb⟩) hj
      have hclosed : ∀ (j : Nat) (p : Oper), listed.getD j false = true → (os.take m)[j]? = some p → far ⟨os⟩ 2 p i = true → False := by
        intro j p hj hp h
        have := hfar 2 p i (fun e he hb => ⟨by obtain ⟨k1, _⟩ := okE1_at hcp j p hp; have := k1 e he hb; have := (List.getElem?_eq_some_iff.1 hp).1; rw [List.length_take] at this; omega, hd.closed j p hj hp e he hb⟩) h
        rw [hilf] at this; cases this
      have hssa : ∀ (j : Nat) (p : Oper) (s : Nat), (os.take m)[j]? = some p → p.dst = some s → i ≠ j → o.dst ≠ some s := by
        intro j p s hp hps hij h
        have := hpair j p hp
        simp [pairE, hps, h, beqF hij] at this
      have hsize : ∀ b, (listed.setIfInBounds i b).size = os.length := by intro b; simpa using hsz
      have hcond : ∀ j, (listed.setIfInBounds i true).getD j false = cond (Nat.beq i j) true (listed.getD j false) := fun j => setD (by omega)
      -- the step behind an operation
      have hnew : ∀ (es' : List Nat) (E' : Env) (σ' : St) (av' : Act) (w' : World) (μ' : Gh) (u : T), ((∀ j, j ∈ eff → (listed.setIfInBounds i true).getD j false = false) → σ' = σ0) → sortedB es' = true → (∀ j, j ∈ es' ↔ j ∈ eff ∧ (listed.setIfInBounds i true).getD j false = false) →
          EL P N ⟨os⟩ F fin (A3 (blank eff 0 (os.take m)) rs a0 m) es' E' σ' → Ev w μ σ w' μ' σ' → Inv w' μ' σ' → av'.tmps.size = N → av'.defers = [] → (∀ s, o.dst ≠ some s → av'.tmps[s]? = av.tmps[s]?) →
          (∀ s, o.dst = some s → ∃ v, av'.tmps[s]? = some v ∧ Rel w' μ' σ' v u) →
          (memB i eff = true ∧ E' = put E o.dst u ∨ memB i eff = false ∧ E' = E ∧ rs[i]? = some u) → wpAny P .any ⟨os⟩ Qc (fuel + (os.length - m)) (listed.setIfInBounds i true) av' w' := by
        intro es' E' σ' av' w' μ' u hst' hso' hes' hel' hev' hi' hsz' hdf' hfr hdst hcase
        refine ih (l.erase i) es' E' σ' _ av' w' μ' (hn.erase i) ?_ (hsize _) (fun j => ?_) (fun j hj => ?_) hso' hes' hel' hst' (hev.trans hev') ⟨hi', hsz', hdf', ?_, ?_, ?_, ?_, ?_, ?_⟩
        · rw [List.length_erase_of_mem ((hmem i).2 ⟨hin, hil⟩)]; omega
        · rw [hn.mem_erase_iff, hmem j, setD (by omega)]
          by_cases e : i = j
          · subst e; simp
          · rw [beqF e]; simp only [cond_false]
            exact ⟨fun h => h.2, fun h => ⟨fun h' => e h'.symm, h⟩⟩
        · by_cases e : i = j
          · omega
          · rw [hcond, beqF e] at hj; exact hlm j hj
        · intro s t hno ht
          have hds : o.dst ≠ some s := hno i o (by rw [hcond]; simp) ho
          rw [hfr s hds]
          obtain ⟨v, hv, r⟩ := hd.base s t (fun j p hj hp => hno j p (by rw [hcond, hj]; cases Nat.beq i j <;> rfl) hp) ht
          exact ⟨v, hv, r.ev hev'⟩
        · intro j p s t hj hje hp hps ht
          by_cases e : i = j
          · subst e
            rw [ho] at hp; injection hp with hp; subst hp
            rcases hcase with ⟨h1, _⟩ | ⟨_, _, h1⟩
            · rw [h1] at hje; cases hje
            · rw [ht] at h1; injection h1 with h1; subst h1
              exact hdst s hps
          · rw [hcond, beqF e, cond_false] at hj
            rw [hfr s (hssa j p s hp hps e)]
            obtain ⟨v, hv, r⟩ := hd.done j p s t hj hje hp hps ht
            exact ⟨v, hv, r.ev hev'⟩
        · intro s t ht
          have hold : get E s = some t → o.dst ≠ some s → ∃ v, av'.tmps[s]? = some v ∧ Rel w' μ' σ' v t := by
            intro ht hds
            rw [hfr s hds]
            obtain ⟨v, hv, r⟩ := hd.effd s t ht
            exact ⟨v, hv, r.ev hev'⟩
          have hne : get E s = some t → o.dst ≠ some s := by
            intro ht
            obtain ⟨j, p, h1, h2, h3, h4⟩ := hd.ekey s t ht
            exact hssa j p s h3 h4 (by intro e; subst e; rw [hilf] at h1; cases h1)
          rcases hcase with ⟨_, rfl⟩ | ⟨_, rfl, _⟩
          · cases hdd : o.dst with
            | none => rw [hdd] at ht; exact hold ht (by rw [hdd]; simp)
            | some d =>
              rw [hdd] at ht
              by_cases e : d = s
              · subst e
                have : u = t := by simpa [put, get] using ht
                subst this
                exact hdst d hdd
              · have ht' : get E s = some t := by simpa [put, get, beqF e] using ht
                exact hold ht' (hne ht')
          · exact hold ht (hne ht)
        · intro s t ht
          have hold : get E s = some t → ∃ (j : Nat) (p : Oper), (listed.setIfInBounds i true).getD j false = true ∧ memB j eff = true ∧ (os.take m)[j]? = some p ∧ p.dst = some s := by
            intro ht
            obtain ⟨j, p, h1, h2, h3, h4⟩ := hd.ekey s t ht
            exact ⟨j, p, by rw [hcond, h1]; cases Nat.beq i j <;> rfl, h2, h3, h4⟩
          rcases hcase with ⟨hie, rfl⟩ | ⟨_, rfl, _⟩
          · cases hdd : o.dst with
            | none => rw [hdd] at ht; exact hold ht
            | some d =>
              rw [hdd] at ht
              by_cases e : d = s
              · subst e
                exact ⟨i, o, by rw [hcond]; simp, hie, ho, hdd⟩
              · exact hold (by simpa [put, get, beqF e] using ht)
          · exact hold ht
        · intro j p s hj hje hp hps
          by_cases e : i = j
          · subst e
            rw [ho] at hp; injection hp with hp; subst hp
            rcases hcase with ⟨_, rfl⟩ | ⟨h1, _⟩
            · rw [hps]; simp [put, get]
            · rw [h1] at hje; cases hje
          · rw [hcond, beqF e, cond_false] at hj
            have h0 := hd.ehas j p s hj hje hp hps
            rcases hcase with ⟨_, rfl⟩ | ⟨_, rfl, _⟩
            · cases hdd : o.dst with
              | none => exact h0
              | some d =>
                have : d ≠ s := fun e' => hssa j p s hp hps e (by rw [hdd, e'])
                simpa [put, get, beqF this] using h0
            · exact h0
        · intro j p hj hp e he hb
          rw [hcond]
          cases hij : Nat.beq i e.on with
          | true => rfl
          | false =>
            rw [hcond] at hj
            cases hij2 : Nat.beq i j with
            | true =>
              have := Nat.eq_of_beq_eq_true hij2; subst this
              rw [ho] at hp; injection hp with hp; subst hp
              exact hready e he hb
            | false => rw [hij2] at hj; exact hd.closed j p hj hp e he hb
      unfold wpOp
      simp only [ho']
      cases hie : memB i eff with
      | false =>
        obtain ⟨t, ht, hstep0⟩ := hs i o ho hie
        have hFI : FI ea σ0 F i σ := by
          unfold FI
          cases hb : memB i ea with
          | false => exact hel.fam
          | true =>
            refine hst fun j hj => ?_
            cases hlj : listed.getD j false with
            | false => rfl
            | true =>
              exfalso
              have h1 := List.all_eq_true.1 (List.all_eq_true.1 hea i (memB_iff.1 hb)) j hj
              have hjm := heffm j hj
              have hp : (os.take m)[j]? = some (os[j]'(by omega)) := by rw [List.getElem?_take_of_lt hjm, List.getElem?_eq_getElem (by omega)]
              have hp2 : (⟨os⟩ : Array Oper)[j]? = some (os[j]'(by omega)) := by simp
              rw [hp2] at h1
              exact hclosed j _ hlj hp h1
        have hst2 : (∀ j, j ∈ eff → (listed.setIfInBounds i true).getD j false = false) → σ = σ0 := by
          intro h
          refine hst fun j hj => ?_
          have h2 := h j hj
          rw [hcond] at h2
          cases hb : Nat.beq i j with
          | true => rw [hb] at h2; cases h2
          | false => rw [hb] at h2; exact h2
        have hstep := hstep0 σ hFI
        have hrel : RelA w μ σ N av (Ay (A3 (blank eff 0 (os.take m)) rs a0 i) (Ax ⟨os⟩ o)) := by
          refine ⟨hd.size, hd.defers, fun s u hu => ?_⟩
          obtain ⟨m1, m2⟩ := get_restr hu
          rcases hcan i s u (by omega) m2 with ⟨j, p, h1, h2, h3, h4, h5⟩ | ⟨h1, h2⟩
          · have := hpair j p h3
            simp only [pairE, h4, memB_of m1, hie, h2, Bool.not_true, Bool.false_or, Bool.and_eq_true, cond_false, show Nat.blt j i = true from (by rw [Nat.blt_eq]; exact h1), cond_true] at this
            exact hd.done j p s u (hreF j this.2.2) h2 h3 h4 h5
          · refine hd.base s u (fun j p hj hp hps => ?_) h2
            have := hpair j p hp
            cases hje : memB j eff with
            | true =>
              simp only [pairE, hps, memB_of m1, hie, hje, Bool.not_true, Bool.false_or, Bool.and_eq_true, cond_false, cond_true] at this
              exact hclosed j p hj hp this.2.2.2
            | false =>
              rcases Nat.lt_trichotomy j i with h | h | h
              · exact h1 j p h hje hp hps
              · subst h; rw [hilf] at hj; cases hj
              · have hb : Nat.blt j i = false := by cases hb : Nat.blt j i with | false => rfl | true => rw [Nat.blt_eq] at hb; omega
                simp only [pairE, hps, memB_of m1, hie, hje, Bool.not_true, Bool.false_or, Bool.and_eq_true, hb, cond_false, show Nat.blt i j = true from (by rw [Nat.blt_eq]; exact h), cond_true] at this
                exact hclosed j p hj hp this.2.2
        have hes' : ∀ j, j ∈ es ↔ j ∈ eff ∧ (listed.setIfInBounds i true).getD j false = false := by
          intro j
          rw [hes j, hcond]
          by_cases e : i = j
          · subst e
            have : ¬ i ∈ eff := fun h => by rw [memB_of h] at hie; cases hie
            simp [this]
          · rw [beqF e, cond_false]
        rcases hstep with ⟨hg, hA⟩ | ⟨hg, rfl, hfit⟩
        · rw [wanted_of hrel hg, if_pos rfl]
          refine .inl ?_
          have := hA (fun a' σ' => a' = put (Ay (A3 (blank eff 0 (os.take m)) rs a0 i) (Ax ⟨os⟩ o)) o.dst t ∧ σ' = σ) ⟨rfl, rfl⟩ av w μ hd.inv hrel (fun av' w' => ∃ μ', Ev w μ σ w' μ' σ ∧ Inv w' μ' σ ∧ RelA w' μ' σ N av' (put (Ay (A3 (blank eff 0 (os.take m)) rs a0 i) (Ax ⟨os⟩ o)) o.dst t)) Qc
            (by rintro av' w' μ' a' σ' h1 h2 h3 ⟨rfl, rfl⟩; exact ⟨μ', h1, h2, h3⟩)
          refine Oper.wp_mono ?_ (upon_frame this)
          rintro av' w' ⟨⟨μ', h1, h2, h3⟩, h4⟩
          exact hnew es E σ av' w' μ' t hst2 hso hes' hel h1 h2 h3.size h3.defers h4 (fun s hs => h3.tmp s t (by rw [hs]; simp [put, get])) (.inr ⟨hie, rfl, ht⟩)
        · rw [wanted_of hrel hg, if_neg (by simp)]
          have hp := hrel.put hfit (v := undef) (t := .tup []) (.tup [] #[] rfl fun j c v h1 h2 => by simp at h1)
          refine hnew es E σ _ w μ (.tup []) hst2 hso hes' hel (.refl _ _ _) hd.inv hp.size hp.defers (fun s hs => ?_) (fun s hs => ?_) (.inr ⟨hie, rfl, ht⟩)
          · cases hd' : o.dst with
            | none => simp [Act.put]
            | some d =>
              have : d ≠ s := fun e => hs (by rw [hd', e])
              simp [Act.put, Array.getElem?_setIfInBounds, this]
          · exact hp.tmp s _ (by rw [hs]; simp [put, get])
      | true =>
        have hieff : i ∈ eff := memB_iff.1 hie
        have hst2 : ∀ σ' : St, (∀ j, j ∈ eff → (listed.setIfInBounds i true).getD j false = false) → σ' = σ0 := by
          intro σ' h
          have h2 := h i hieff
          rw [hcond] at h2
          simp at h2
        obtain ⟨i0, is, rfl⟩ : ∃ i0 is, es = i0 :: is := by
          cases es with
          | nil => have := (hes i).2 ⟨hieff, hilf⟩; cases this
          | cons i0 is => exact ⟨i0, is, rfl⟩
        have hi0 : i = i0 := by
          have h1 := (hes i).2 ⟨hieff, hilf⟩
          rcases List.mem_cons.1 h1 with h | h
          · exact h
          · exfalso
            have hlt := sorted_head hso i h
            obtain ⟨h2, h3⟩ := (hes i0).1 (by simp)
            obtain ⟨p, hp⟩ : ∃ p, (os.take m)[i0]? = some p := ⟨_, List.getElem?_eq_getElem (by have := heffm i0 h2; omega)⟩
            have := hpair i0 p hp
            simp only [pairE, hie, memB_of h2, Bool.and_true, show Nat.blt i0 i = true from (by rw [Nat.blt_eq]; exact hlt), cond_true, Bool.and_eq_true] at this
            rw [hreF i0 this.1] at h3; cases h3
        subst hi0
        obtain ⟨hF, o2, ho2, hcase⟩ := hel
        rw [ho'] at ho2; injection ho2 with ho2; subst ho2
        have hrel : RelA w μ σ N av (Ay (E ++ A3 (blank eff 0 (os.take m)) rs a0 m) (Ax ⟨os⟩ o)) := by
          refine ⟨hd.size, hd.defers, fun s u hu => ?_⟩
          obtain ⟨m1, m2⟩ := get_restr hu
          rw [get_append] at m2
          cases hE : get E s with
          | some u' => rw [hE] at m2; injection m2 with m2; subst m2; exact hd.effd s u' hE
          | none =>
            rw [hE] at m2
            rcases hcan m s u (Nat.le_refl _) m2 with ⟨j, p, h1, h2, h3, h4, h5⟩ | ⟨h1, h2⟩
            · have := hpair j p h3
              simp only [pairE, h4, memB_of m1, hie, h2, Bool.not_true, Bool.false_or, Bool.and_eq_true, cond_false, cond_true] at this
              exact hd.done j p s u (hreF j this.2.2.2) h2 h3 h4 h5
            · refine hd.base s u (fun j p hj hp hps => ?_) h2
              cases hje : memB j eff with
              | true => exact hd.ehas j p s hj hje hp hps hE
              | false => exact h1 j p (by have := (List.getElem?_eq_some_iff.1 hp).1; omega) hje hp hps
        have hes' : ∀ j, j ∈ is ↔ j ∈ eff ∧ (listed.setIfInBounds i true).getD j false = false := by
          intro j
          rw [hcond]
          have h1 := hes j
          by_cases e : i = j
          · subst e
            have : ¬ i ∈ is := fun h => by have := sorted_head hso i h; omega
            simp [this]
          · rw [beqF e, cond_false, ← h1, List.mem_cons]
            exact ⟨.inr, fun h => h.resolve_left (fun h => e h.symm)⟩
        rcases hcase with ⟨hg, hA⟩ | ⟨hg, hfit, hel'⟩
        · rw [wanted_of hrel hg, if_pos rfl]
          refine .inl ?_
          have := hA av w μ hd.inv hrel (fun av' w' => ∃ u σ' μ', EL P N ⟨os⟩ F fin (A3 (blank eff 0 (os.take m)) rs a0 m) is (put E o.dst u) σ' ∧ Ev w μ σ w' μ' σ' ∧ Inv w' μ' σ' ∧ RelA w' μ' σ' N av' (put (Ay (E ++ A3 (blank eff 0 (os.take m)) rs a0 m) (Ax ⟨os⟩ o)) o.dst u)) Qc
            (by rintro av' w' μ' a' σ' h1 h2 h3 ⟨u, rfl, h4⟩; exact ⟨u, σ', μ', h4, h1, h2, h3⟩)
          refine Oper.wp_mono ?_ (upon_frame this)
          rintro av' w' ⟨⟨u, σ', μ', h0, h1, h2, h3⟩, h4⟩
          exact hnew is (put E o.dst u) σ' av' w' μ' u (hst2 σ') (sorted_tail hso) hes' h0 h1 h2 h3.size h3.defers h4 (fun s hs => h3.tmp s u (by rw [hs]; simp [put, get])) (.inl ⟨hie, rfl⟩)
        · rw [wanted_of hrel hg, if_neg (by simp)]
          have hp := hrel.put hfit (v := undef) (t := .tup []) (.tup [] #[] rfl fun j c v h1 h2 => by simp at h1)
          refine hnew is (put E o.dst (.tup [])) σ _ w μ (.tup []) (hst2 σ) (sorted_tail hso) hes' hel' (.refl _ _ _) hd.inv hp.size hp.defers (fun s hs => ?_) (fun s hs => ?_) (.inl ⟨hie, rfl⟩)
          · cases hd' : o.dst with
            | none => simp [Act.put]
            | some d =>
              have : d ≠ s := fun e => hs (by rw [hd', e])
              simp [Act.put, Array.getElem?_setIfInBounds, this]
          · exact hp.tmp s _ (by rw [hs]; simp [put, get])

theorem aw_draw0 {id m : Nat} {os pre post : List Oper} {a : Env} {Q : Exit → Env → St → Prop} (eff ea : List Nat) (F : St → Prop) (hm : P.follows .mixedOrders = true) (hc : drawOKE ⟨os⟩ m eff = true) (hea : eaOK ⟨os⟩ eff ea = true) (hml : Nat.ble m os.length = true) (hp : os.take m = pre) (hq : os.drop m = post)
    (h : DQ0 P N ⟨os⟩ eff ea σ F (fun A => EL P N ⟨os⟩ F (fun a' σ' => AL P N ⟨os⟩ Q m post a' σ') A eff [] σ) 0 pre a) : AW P N (.region id ⟨os⟩ true) Q a σ := by
  subst hp; subst hq
  have hml' := Nat.le_of_ble_eq_true hml
  have htl : (os.take m).length = m := by rw [List.length_take]; omega
  intro av w μ hi hr
  obtain ⟨rs, h1, h2, h3⟩ := dq_can0 (os.take m) 0 a h
  rw [htl] at h3
  have hev : Ev w μ σ { w with drawn := w.drawn + 1 } μ σ := ev_same rfl rfl rfl rfl
  have hi' : Inv { w with drawn := w.drawn + 1 } μ σ := hi.ev_heap rfl hev
  have X1 : ∀ i, i ∈ List.range m ↔ i < m ∧ (Array.replicate os.length false).getD i true = false := by
    intro i
    simp only [List.mem_range]
    constructor
    · intro h; exact ⟨h, by simp [Array.getD]; omega⟩
    · intro h; exact h.1
  have hf : ∀ j, (Array.replicate os.length false).getD j false = true → False := by
    intro j hj
    simp [Array.getD] at hj
  have X3 : EInv (os.take m) eff rs a N σ [] (Array.replicate os.length false) av { w with drawn := w.drawn + 1 } μ :=
    ⟨hi', hr.size, hr.defers, fun s t _ ht => (hr.ev hev).tmp s t ht, fun j o s t hj => (hf j hj).elim, fun s t h => by simp [get] at h, fun s t h => by simp [get] at h, fun j o s hj => (hf j hj).elim, fun j o hj => (hf j hj).elim⟩
  have hso : sortedB eff = true := by
    unfold drawOKE at hc; simp only [Bool.and_eq_true] at hc; exact hc.1.2
  have hct : ∀ (i : Nat) (o : Oper), m ≤ i → os[i]? = some o → (∀ e ∈ o.after.toList, Region.binds .any e = true → e.on < i) ∧ (i = m → ∀ j, j < m → hasEdge o j = true) ∧ (m < i → hasEdge o (i - 1) = true) := by
    intro i o hi ho
    unfold drawOKE at hc; simp only [Bool.and_eq_true] at hc
    have := tailOK_at hc.1.1.2 (i - m) o (by rw [List.getElem?_drop, show m + (i - m) = i by omega]; exact ho)
    rw [show m + (i - m) = i by omega] at this
    exact ⟨this.1, fun h => this.2.1 (by omega), fun h => this.2.2 (by omega)⟩
  have key := wpAny_eff0 (w0 := w) (μ0 := μ) (σ0 := σ) (Qc := fun e av' w' => ∃ a' σ' μ', Ev w μ σ w' μ' σ' ∧ Inv w' μ' σ' ∧ RelA w' μ' σ' N av' a' ∧ Q e a' σ') hml' hc hea h1 (fun j o ho hj => by have := h2 j o ho (by rwa [Nat.zero_add]); rwa [Nat.zero_add] at this)
    (fun av' w' μ' σ' a' listed k1 k2 k3 k4 k5 k6 => wpAny_tail hct _ m listed av' w' (by omega) (Nat.le_refl _) k1 k2 (by
      have := k6 rfl av' w' μ' k4 k5 _ (fun e av2 w2 μ2 a2 σ2 l1 l2 l3 l4 => (⟨a2, σ2, μ2, k3.trans l1, l2, l3, l4⟩ : ∃ a' σ' μ2, Ev w μ σ w2 μ2 σ' ∧ Inv w2 μ2 σ' ∧ RelA w2 μ2 σ' N av2 a' ∧ Q e a' σ'))
      rwa [List.length_drop] at this))
    m (List.range m) eff [] σ (Array.replicate os.length false) av { w with drawn := w.drawn + 1 } μ List.nodup_range (by simp) (by simp) X1 (fun j hj => (hf j hj).elim) hso (fun i => ⟨fun h => ⟨h, by simp [Array.getD]⟩, fun h => h.1⟩) h3 (fun _ => rfl) hev X3
  refine wp_region_any hm ?_
  rw [show m + (os.length - m) = os.length by omega] at key
  exact key

theorem Bg {id m : Nat} {os pre post : List Oper} {a : Env} {Q : Exit → Env → St → Prop} (eff ea : List Nat) (F : St → Prop) (hm : P.follows .mixedOrders = true) (hc : drawOKE ⟨os⟩ m eff = true) (hea : eaOK ⟨os⟩ eff ea = true) (hs : Sp m os pre post)
    (h : let O1 : Array Oper := ⟨os⟩; let F1 := F; let Z1 := fun a' σ' => AL P N O1 Q m post a' σ'; let Q2 := fun A => EL P N O1 F1 Z1 A eff [] σ; DQ0 P N O1 eff ea σ F1 Q2 0 pre a) : AW P N (.region id ⟨os⟩ true) Q a σ :=
  aw_draw0 eff ea F hm hc hea (Nat.ble_eq_true_of_le hs.eq.2.2) hs.eq.1 hs.eq.2.1 h

variable {ops : Array Oper} {eff ea : List Nat} {σ0 : St} {F : St → Prop} {QE : Env → Prop} {a : Env}
theorem dq0_nil {i : Nat} (h : QE a) : DQ0 P N ops eff ea σ0 F QE i [] a := h
theorem dq0_e {i : Nat} {o : Oper} {os : List Oper} (hb : memB i eff = true) (h : DQ0 P N ops eff ea σ0 F QE (i + 1) os a) : DQ0 P N ops eff ea σ0 F QE i (o :: os) a := by
  unfold DQ0; rw [hb]; exact h
theorem dq0_cons {i : Nat} {o : Oper} {os : List Oper} {d : Tmp} {t : T} (hb : memB i eff = false) (hea : memB i ea = false) (hg : Bb ops (Ay a (Ax ops o)) o = some true) (hdd : o.dst = some d)
    (hs : ∀ σ, F σ → ∀ K : Env → St → Prop, K (put (Ay a (Ax ops o)) (some d) t) σ → AOp P N o (Ay a (Ax ops o)) σ K) (h : DQ0 P N ops eff ea σ0 F QE (i + 1) os (put a (some d) t)) : DQ0 P N ops eff ea σ0 F QE i (o :: os) a := by
  generalize some d = dd at *; subst hdd; unfold DQ0; rw [hb]; exact ⟨t, fun σ hσ => .inl ⟨hg, hs σ (by unfold FI at hσ; rw [hea] at hσ; exact hσ)⟩, h⟩
theorem Bi {i : Nat} {o : Oper} {os : List Oper} {d : Tmp} {t : T} (hb : memB i eff = false) (hea : memB i ea = true) (hg : Bb ops (Ay a (Ax ops o)) o = some true) (hdd : o.dst = some d)
    (hs : ∀ K : Env → St → Prop, K (put (Ay a (Ax ops o)) (some d) t) σ0 → AOp P N o (Ay a (Ax ops o)) σ0 K) (h : DQ0 P N ops eff ea σ0 F QE (i + 1) os (put a (some d) t)) : DQ0 P N ops eff ea σ0 F QE i (o :: os) a := by
  generalize some d = dd at *; subst hdd; unfold DQ0; rw [hb]; exact ⟨t, fun σ hσ => by unfold FI at hσ; rw [hea, cond_true] at hσ; subst hσ; exact .inl ⟨hg, hs⟩, h⟩
end
end Go.Ts
namespace Go.Ts
set_option linter.unusedSimpArgs false
set_option linter.unusedVariables false
def rowT {α : Type} (f : α → T) (d : Array α) : List T := d.toList.map f
theorem rowT_length {α : Type} (f : α → T) (d : Array α) : (rowT f d).length = d.size := by simp [rowT]
theorem rowT_get {α : Type} [Inhabited α] (f : α → T) (d : Array α) {p : Nat} (h : p < d.size) : (rowT f d)[p]? = some (f d[p]!) := by
  simp [rowT, h, getElem!_pos d p h]
theorem rowT_stored {α : Type} (f : α → T) [Enc f 1] (hf : ∀ x, (f x).cells = [f x]) (d : Array α) (x : α) {p : Nat} (h : p < d.size) : stored (rowT f d) (f x).cells p = rowT f (d.setIfInBounds p x) := by
  rw [hf]
  apply List.ext_getElem?
  intro k
  rw [stored_get (by rw [rowT_length]; simp; omega)]
  simp only [rowT, List.length_singleton, List.getElem?_map, Array.getElem?_toList, Array.getElem?_setIfInBounds]
  by_cases hk : p = k
  · subst hk; simp [h]
  · rw [if_neg (by omega), if_neg hk]
section
variable {P : Program} {G : Nat → Option TI} {N : Nat} {σ : St} {a : Env} {K : Env → St → Prop} {d : Tmp} {ty : TypeId} {pos : String} {af : Array Edge} {gd : Option (Nat × Bool)} {α : Type}
theorem r_idxL {t : TypeId} {x ix : Operand} {k : IntKind} {z e i n : Nat} {cap : Option Nat} {ti te : TI} (hG : Fits P G)
    (hx : Ad a x = some (.aref 1 i 0 n cap)) (hn : Ad a ix = some (.int k ((z : Nat) : Int))) (ht : G t = some ti) (htd : ti.d = .slice e) (hte : G e = some te) (hsz : Nat.beq 1 te.size = true) (hd : Ai N (some d) = true)
    (h0 : z < n) (kk : K (put a (some d) (.ptr i z)) σ) : AOp P N ⟨some d, .indexAddr t x ix, ty, pos, af, gd⟩ a σ K := by
  have h1 : 1 = te.size := Nat.eq_of_beq_eq_true hsz
  refine op_q hG (t := .ptr i z) ?_ rfl hd kk
  obtain ⟨d1, s1, s2, s3⟩ := ti
  simp only at htd; subst htd
  have h2 : sizeT G e = some 1 := by simp [sizeT, hte, ← h1]
  have h3 : ¬ ((z : Int) < 0) := by omega
  simp only [Av, hx, hn, ht, h2]
  simp [h0]
theorem Ar [Inhabited α] (m : Nat) {f : α → T} {c : Array α} {t : TypeId} {x : Operand} {i p : Nat} {ti : TI} (hG : Fits P G) (hx : Ad a x = some (.ptr i p)) (hob : σ.L[m]? = some (i, .cells (rowT f c))) (ht : G t = some ti) (hag : ti.d.agg = false)
    (hp : p < c.size) (hd : Ai N (some d) = true) (kk : K (put a (some d) (f c[p]!)) σ) : AOp P N ⟨some d, .load t x, ty, pos, af, gd⟩ a σ K := by
  refine r_ld m hG hx hob ?_ hd kk
  simp [readT, ht, hag, rowT_get f c hp]
theorem At (m : Nat) {f : α → T} [Enc f 1] {c : Array α} {v : α} {t : TypeId} {x y : Operand} {i p : Nat} {ti : TI} (hG : Fits P G) (hx : Ad a x = some (.ptr i p)) (hob : σ.L[m]? = some (i, .cells (rowT f c))) (hy : Ad a y = some (f v))
    (hf : ∀ x, (f x).cells = [f x]) (hsc : ∀ x, (notRaw (f x) && (f x).cells.all T.scalar) = true) (hty : G t = some ti) (hsz : Nat.beq 1 ti.size = true) (hp : p < c.size)
    (kk : K a (σ.set m i (.cells (rowT f (c.setIfInBounds p v))))) : AOp P N ⟨none, .store t x y, ty, pos, af, gd⟩ a σ K := by
  refine r_st m hG hx hob hy (hsc v) hty (by rw [hf]; exact hsz) ?_ ?_
  · rw [hf, rowT_length]; exact Nat.ble_eq_true_of_le (by simp; omega)
  · rw [rowT_stored f hf c v hp]; exact kk
def arN : BinOp → Nat → Nat → Option Nat
  | .add, n, m => some (n + m)
  | .mul, n, m => some (n * m)
  | _, _, _ => none
theorem Ah {op : BinOp} {t yt : TypeId} {x y : Operand} {n m r : Nat} {ti : TI} (hG : Fits P G) (ht : G t = some ti) (hx : Ad a x = some (.int .i64 ((n : Nat) : Int))) (hy : Ad a y = some (.int .i64 ((m : Nat) : Int))) (hr : arN op n m = some r) (hd : Ai N (some d) = true)
    (hb : r ≤ 9223372036854775807) (kk : K (put a (some d) (.int .i64 ((r : Nat) : Int))) σ) : AOp P N ⟨some d, .binOp op t x y yt, ty, pos, af, gd⟩ a σ K := by
  cases op <;> simp only [arN, reduceCtorEq, Option.some.injEq] at hr <;> subst hr
  · exact Ao hG ht hx hy rfl hd (by omega) (by simpa using kk)
  · refine Ao hG ht hx hy rfl hd ?_ (by simpa using kk)
    rw [← Int.natCast_mul]; omega
theorem A8 {t yt : TypeId} {x y : Operand} {n m : Nat} {ti : TI} (hG : Fits P G) (ht : G t = some ti) (hx : Ad a x = some (.int .i64 ((n : Nat) : Int))) (hy : Ad a y = some (.int .i64 ((m : Nat) : Int))) (hd : Ai N (some d) = true)
    (hb : m ≤ n ∧ n ≤ 9223372036854775807) (kk : K (put a (some d) (.int .i64 ((n - m : Nat) : Int))) σ) : AOp P N ⟨some d, .binOp .sub t x y yt, ty, pos, af, gd⟩ a σ K :=
  Ao hG ht hx hy rfl hd (by omega) (by rw [show ((n : Int) - (m : Int)) = ((n - m : Nat) : Int) by omega]; exact kk)
theorem A2 {t yt : TypeId} {x y : Operand} {n m : Nat} {ti : TI} (hG : Fits P G) (ht : G t = some ti) (hx : Ad a x = some (.int .i64 ((n : Nat) : Int))) (hy : Ad a y = some (.int .i64 ((m : Nat) : Int))) (hd : Ai N (some d) = true)
    (hb : 0 < m ∧ n ≤ 9223372036854775807) (kk : K (put a (some d) (.int .i64 ((n / m : Nat) : Int))) σ) : AOp P N ⟨some d, .binOp .quo t x y yt, ty, pos, af, gd⟩ a σ K := by
  refine op_q hG (t := .int .i64 ((n / m : Nat) : Int)) ?_ rfl hd kk
  have h1 : ((m : Int) == 0) = false := by simp; omega
  have h2 : (n : Int).tdiv (m : Int) = ((n / m : Nat) : Int) := by simp
  have h3 : n / m ≤ n := Nat.div_le_self _ _
  simp only [Av, hx, hy, ht, evalBin, isShift, cond_false, decide_true, cond_true, evalInt, h1, h2]
  generalize n / m = q at h3 ⊢
  rw [i64_in (by omega) (by omega)]
def OnRow (P : Program) (g : FuncId) (f : α → T) (ts : List T) (c : Array α) (r : T) (c' : Array α) : Prop :=
  ∀ off i n cap, c.size = n → ACalls P g (.aref 1 i 0 n cap :: ts) ⟨[(i, .cells (rowT f c))], [], off, none⟩ (fun u σ' => σ' = ⟨[(i, .cells (rowT f c'))], [], off, none⟩ ∧ u = r)
theorem OnRow.calls {g : FuncId} {f : α → T} {ts : List T} {c c' : Array α} {r : T} {i n : Nat} {cap : Option Nat} {Lf : List (Nat × Ob)} (h : OnRow P g f ts c r c') (hnx : σ.nx = none) (hL : σ.L.Perm ((i, .cells (rowT f c)) :: Lf)) (hn : c.size = n) {K : T → St → Prop}
    (k : K r { σ with L := (i, .cells (rowT f c')) :: Lf }) : ACalls P g (.aref 1 i 0 n cap :: ts) σ K := by
  refine (frame (Ls := [(i, .cells (rowT f c))]) (Lf := Lf) hL (R := fun u L R' => L = [(i, .cells (rowT f c'))] ∧ R' = [] ∧ u = r) hnx fun off => (h off i n cap hn).mono fun u σ' ⟨h1, h2⟩ => by subst h1; exact ⟨rfl, rfl, rfl, h2⟩).mono ?_
  rintro u σ' ⟨L', R', ⟨rfl, rfl, rfl⟩, rfl⟩
  obtain ⟨L, R1, off, nx⟩ := σ
  simp only at hnx; subst hnx
  exact k
theorem r_row {f : Operand} {args : Array Operand} {tys : Array TypeId} {g : FuncId} {F : α → T} {ts us : List T} {c c' : Array α} {r : T} {i n : Nat} {cap : Option Nat} {Lf : List (Nat × Ob)}
    (hf : Ad a f = some (.fn (.func g) [])) (ha : argsT a args.toList = some us) (hu : us = .aref 1 i 0 n cap :: ts) (hd : Ai N (some d) = true) (hnx : σ.nx = none) (hL : σ.L.Perm ((i, .cells (rowT F c)) :: Lf))
    (h : OnRow P g F ts c r c') (hn : c.size = n) (k : K (put a (some d) r) { σ with L := (i, .cells (rowT F c')) :: Lf }) : AOp P N ⟨some d, .call ⟨.value f, args, tys⟩, ty, pos, af, gd⟩ a σ K := by
  subst hu
  refine op_call rfl hf ha rfl hd ?_
  rw [List.append_nil]
  exact h.calls hnx hL hn k
theorem ret_row {rs : List ResultVar} {ts : List T} {f : α → T} {c : Array α} {r : T} {i : Nat} (m : Nat) (h : ResRs G a σ rs ts) (hn : σ.L[m]? = some (i, .cells (rowT f c))) (hw : Wk (tup1 ts) r) (hnx : σ.nx = none) :
    retA G rs (fun u σ' => σ' = ⟨[(i, .cells (rowT f c))], [], σ.off, none⟩ ∧ u = r) .ret a σ := by
  refine ⟨ts, h, ((conv_drop (L' := [(i, .cells (rowT f c))]) (R' := []) (List.singleton_sublist.2 (List.mem_of_getElem? hn)) (List.nil_sublist _) hw).cr ⟨?_, rfl⟩)⟩
  rw [hnx]
theorem ret_rowE {rs : List ResultVar} {ts : List T} {f : α → T} {c : Array α} {r : T} {i : Nat} (m : Nat) (h : ResRs G a σ rs ts) (hn : σ.L[m]? = some (i, .cells (rowT f c))) (hw : Wk (tup1 ts) r) (hnx : σ.nx = none) :
    retA G rs (fun u σ' => σ' = ⟨[(i, .cells (rowT f c))], [], σ.off, none⟩ ∧ u = r) .normal a σ := ret_row m h hn hw hnx
def mT (n : Nat) : T := .int .u64 (n : Int)
instance : Enc mT 1 := ⟨fun x c h => by simp [mT, T.cells] at h; subst h; rfl, fun x => rfl⟩
def ltQ (x y : Nat) : Bool := decide (x < y)
theorem Aj (x : Nat) : (mT x).cells = [mT x] := rfl
theorem Aw (x : Nat) : (notRaw (mT x) && (mT x).cells.all T.scalar) = true := rfl
end
end Go.Ts
namespace Go.Sets
set_option linter.unusedSimpArgs false
set_option linter.unusedVariables false
abbrev C := UInt16

theorem lt_irrefl (x : C) : ¬ x < x := by simp [UInt16.lt_iff_toNat_lt]
def ins (x : C) : List C → List C
  | [] => [x]
  | y :: l => if x < y then x :: y :: l else if x = y then y :: l else y :: ins x l
def mk (l : List C) : List C := l.foldl (fun acc x => ins x acc) []
end Go.Sets
set_option maxRecDepth 100000
namespace Go.Proofs.Ythfgocinlbogeaa
open Go.Ts
def L : List (Option TI) := [
  none,
  some ⟨.fn, 1, 8, [.fn]⟩,
  some ⟨(.int .i64), 1, 8, [.i .i64]⟩,
  some ⟨(.int .i64), 1, 8, [.i .i64]⟩,
  some ⟨.bool, 1, 1, [.b]⟩,
  some ⟨(.int .u8), 1, 1, [.i .u8]⟩,
  some ⟨(.int .u8), 1, 1, [.i .u8]⟩,
  some ⟨(.struct [(0, 2), (1, 3), (2, 4), (3, 6)]), 4, 24, [.i .i64, .i .i64, .b, .i .u8]⟩,
  some ⟨(.struct [(0, 2), (1, 3), (2, 4), (3, 6)]), 4, 24, [.i .i64, .i .i64, .b, .i .u8]⟩,
  some ⟨.str, 1, 16, [.s]⟩,
  some ⟨.str, 1, 16, [.s]⟩,
  some ⟨.str, 1, 16, [.s]⟩,
  some ⟨(.int .u64), 1, 8, [.i .u64]⟩,
  some ⟨(.struct [(0, 9), (1, 12)]), 2, 24, [.s, .i .u64]⟩,
  some ⟨(.struct [(0, 9), (1, 12)]), 2, 24, [.s, .i .u64]⟩,
  some ⟨(.ptr 171), 1, 8, [.p]⟩,
  some ⟨(.ptr 174), 1, 8, [.p]⟩,
  some ⟨(.ptr 182), 1, 8, [.p]⟩,
  some ⟨(.struct [(0, 17)]), 1, 8, [.p]⟩,
  some ⟨(.struct [(0, 17)]), 1, 8, [.p]⟩,
  none,
  some ⟨(.int .i32), 1, 4, [.i .i32]⟩,
  some ⟨(.slice 5), 1, 24, [.sl]⟩,
  some ⟨(.int .u64), 1, 8, [.i .u64]⟩,
  some ⟨.fn, 1, 8, [.fn]⟩,
  some ⟨.fn, 1, 8, [.fn]⟩,
  some ⟨.fn, 1, 8, [.fn]⟩,
  some ⟨.fn, 1, 8, [.fn]⟩,
  some ⟨(.int .i64), 1, 8, [.i .i64]⟩,
  none,
  some ⟨.fn, 1, 8, [.fn]⟩,
  some ⟨.fn, 1, 8, [.fn]⟩,
  some ⟨(.slice 22), 1, 24, [.sl]⟩,
  some ⟨.fn, 1, 8, [.fn]⟩,
  some ⟨.fn, 1, 8, [.fn]⟩,
  none,
  some ⟨.fn, 1, 8, [.fn]⟩,
  none,
  some ⟨.fn, 1, 8, [.fn]⟩,
  some ⟨.fn, 1, 8, [.fn]⟩,
  some ⟨.fn, 1, 8, [.fn]⟩,
  some ⟨(.slice 126), 1, 24, [.sl]⟩,
  some ⟨(.struct [(0, 5), (1, 41)]), 2, 32, [.i .u8, .sl]⟩,
  some ⟨(.struct [(0, 5), (1, 41)]), 2, 32, [.i .u8, .sl]⟩,
  some ⟨(.slice 124), 1, 24, [.sl]⟩,
  some ⟨(.struct [(0, 44), (1, 44), (2, 44)]), 3, 72, [.sl, .sl, .sl]⟩,
  some ⟨(.struct [(0, 44), (1, 44), (2, 44)]), 3, 72, [.sl, .sl, .sl]⟩,
  some ⟨(.struct [(0, 3), (1, 3), (2, 23), (3, 23), (4, 3), (5, 3), (6, 43), (8, 46), (11, 22), (12, 44)]), 13, 200, [.i .i64, .i .i64, .i .u64, .i .u64, .i .i64, .i .i64, .i .u8, .sl, .sl, .sl, .sl, .sl, .sl]⟩,
  some ⟨(.struct [(0, 3), (1, 3), (2, 23), (3, 23), (4, 3), (5, 3), (6, 43), (8, 46), (11, 22), (12, 44)]), 13, 200, [.i .i64, .i .i64, .i .u64, .i .u64, .i .i64, .i .i64, .i .u8, .sl, .sl, .sl, .sl, .sl, .sl]⟩,
  none,
  some ⟨.fn, 1, 8, [.fn]⟩,
  some ⟨.fn, 1, 8, [.fn]⟩,
  some ⟨.fn, 1, 8, [.fn]⟩,
  some ⟨.fn, 1, 8, [.fn]⟩,
  some ⟨.fn, 1, 8, [.fn]⟩,
  some ⟨(.ptr 104), 1, 8, [.p]⟩,
  some ⟨.fn, 1, 8, [.fn]⟩,
  some ⟨.fn, 1, 8, [.fn]⟩,
  some ⟨(.slice 23), 1, 24, [.sl]⟩,
  some ⟨.fn, 1, 8, [.fn]⟩,
  some ⟨.fn, 1, 8, [.fn]⟩,
  some ⟨.fn, 1, 8, [.fn]⟩,
  some ⟨.fn, 1, 8, [.fn]⟩,
  some ⟨.fn, 1, 8, [.fn]⟩,
  some ⟨(.slice 70), 1, 24, [.sl]⟩,
  some ⟨(.ptr 68), 1, 8, [.p]⟩,
  some ⟨(.slice 9), 1, 24, [.sl]⟩,
  some ⟨(.struct [(0, 5), (1, 58), (2, 66)]), 3, 56, [.i .u8, .sl, .sl]⟩,
  some ⟨(.struct [(0, 5), (1, 58), (2, 66)]), 3, 56, [.i .u8, .sl, .sl]⟩,
  some ⟨(.struct [(0, 3), (1, 23), (2, 22)]), 3, 40, [.i .i64, .i .u64, .sl]⟩,
  some ⟨(.struct [(0, 3), (1, 23), (2, 22)]), 3, 40, [.i .i64, .i .u64, .sl]⟩,
  some ⟨.fn, 1, 8, [.fn]⟩,
  some ⟨.fn, 1, 8, [.fn]⟩,
  some ⟨.fn, 1, 8, [.fn]⟩,
  none,
  some ⟨.fn, 1, 8, [.fn]⟩,
  some ⟨.fn, 1, 8, [.fn]⟩,
  none,
  some ⟨.fn, 1, 8, [.fn]⟩,
  some ⟨.fn, 1, 8, [.fn]⟩,
  some ⟨(.int .u64), 1, 8, [.i .u64]⟩,
  none,
  some ⟨.fn, 1, 8, [.fn]⟩,
  some ⟨.fn, 1, 8, [.fn]⟩,
  some ⟨.fn, 1, 8, [.fn]⟩,
  some ⟨(.ptr 87), 1, 8, [.p]⟩,
  some ⟨(.struct [(0, 22), (1, 28)]), 2, 32, [.sl, .i .i64]⟩,
  some ⟨(.struct [(0, 22), (1, 28)]), 2, 32, [.sl, .i .i64]⟩,
  some ⟨.fn, 1, 8, [.fn]⟩,
  some ⟨.fn, 1, 8, [.fn]⟩,
  some ⟨(.ptr 48), 1, 8, [.p]⟩,
  some ⟨(.ptr 93), 1, 8, [.p]⟩,
  some ⟨(.struct [(0, 22), (1, 28)]), 2, 32, [.sl, .i .i64]⟩,
  some ⟨(.struct [(0, 22), (1, 28)]), 2, 32, [.sl, .i .i64]⟩,
  some ⟨.fn, 1, 8, [.fn]⟩,
  some ⟨.fn, 1, 8, [.fn]⟩,
  some ⟨.fn, 1, 8, [.fn]⟩,
  some ⟨.fn, 1, 8, [.fn]⟩,
  some ⟨(.ptr 100), 1, 8, [.p]⟩,
  some ⟨(.struct [(0, 22), (1, 28)]), 2, 32, [.sl, .i .i64]⟩,
  some ⟨(.struct [(0, 22), (1, 28)]), 2, 32, [.sl, .i .i64]⟩,
  some ⟨(.map 23 3), 1, 8, [.m]⟩,
  some ⟨(.slice 107), 1, 24, [.sl]⟩,
  some ⟨(.struct [(0, 5), (1, 102), (2, 101)]), 3, 40, [.i .u8, .sl, .m]⟩,
  some ⟨(.struct [(0, 5), (1, 102), (2, 101)]), 3, 40, [.i .u8, .sl, .m]⟩,
  none,
  some ⟨(.struct [(0, 23), (1, 22), (2, 4), (3, 3)]), 4, 48, [.i .u64, .sl, .b, .i .i64]⟩,
  some ⟨(.struct [(0, 23), (1, 22), (2, 4), (3, 3)]), 4, 48, [.i .u64, .sl, .b, .i .i64]⟩,
  some ⟨.fn, 1, 8, [.fn]⟩,
  some ⟨.fn, 1, 8, [.fn]⟩,
  none,
  some ⟨.fn, 1, 8, [.fn]⟩,
  some ⟨.fn, 1, 8, [.fn]⟩,
  some ⟨.fn, 1, 8, [.fn]⟩,
  some ⟨.fn, 1, 8, [.fn]⟩,
  some ⟨.fn, 1, 8, [.fn]⟩,
  some ⟨.fn, 1, 8, [.fn]⟩,
  some ⟨.fn, 1, 8, [.fn]⟩,
  none,
  some ⟨.fn, 1, 8, [.fn]⟩,
  none,
  some ⟨.fn, 1, 8, [.fn]⟩,
  none,
  some ⟨.fn, 1, 8, [.fn]⟩,
  some ⟨(.int .u16), 1, 2, [.i .u16]⟩,
  some ⟨(.struct [(0, 124), (1, 5)]), 2, 4, [.i .u16, .i .u8]⟩,
  some ⟨(.struct [(0, 124), (1, 5)]), 2, 4, [.i .u16, .i .u8]⟩,
  some ⟨.fn, 1, 8, [.fn]⟩,
  some ⟨.fn, 1, 8, [.fn]⟩,
  some ⟨.fn, 1, 8, [.fn]⟩,
  some ⟨.fn, 1, 8, [.fn]⟩,
  some ⟨.fn, 1, 8, [.fn]⟩,
  some ⟨.fn, 1, 8, [.fn]⟩,
  some ⟨.fn, 1, 8, [.fn]⟩,
  some ⟨.fn, 1, 8, [.fn]⟩,
  some ⟨.fn, 1, 8, [.fn]⟩,
  some ⟨(.arr 3 44), 3, 72, [.sl, .sl, .sl]⟩,
  some ⟨.fn, 1, 8, [.fn]⟩,
  some ⟨.fn, 1, 8, [.fn]⟩,
  some ⟨.fn, 1, 8, [.fn]⟩,
  some ⟨.fn, 1, 8, [.fn]⟩,
  some ⟨(.int .i64), 1, 8, [.i .i64]⟩,
  none,
  some ⟨.fn, 1, 8, [.fn]⟩,
  some ⟨.fn, 1, 8, [.fn]⟩,
  some ⟨.fn, 1, 8, [.fn]⟩,
  some ⟨.fn, 1, 8, [.fn]⟩,
  some ⟨.fn, 1, 8, [.fn]⟩,
  some ⟨.fn, 1, 8, [.fn]⟩,
  some ⟨(.int .u32), 1, 4, [.i .u32]⟩,
  some ⟨.fn, 1, 8, [.fn]⟩,
  some ⟨.fn, 1, 8, [.fn]⟩,
  some ⟨(.ptr 44), 1, 8, [.p]⟩,
  some ⟨(.slice 152), 1, 24, [.sl]⟩,
  some ⟨(.int .u64), 1, 8, [.i .u64]⟩,
  some ⟨.fn, 1, 8, [.fn]⟩,
  some ⟨.fn, 1, 8, [.fn]⟩,
  some ⟨.fn, 1, 8, [.fn]⟩,
  some ⟨(.ptr 3), 1, 8, [.p]⟩,
  some ⟨.fn, 1, 8, [.fn]⟩,
  some ⟨.fn, 1, 8, [.fn]⟩,
  some ⟨.fn, 1, 8, [.fn]⟩,
  some ⟨.fn, 1, 8, [.fn]⟩,
  some ⟨(.slice 44), 1, 24, [.sl]⟩,
  some ⟨(.ptr 154), 1, 8, [.p]⟩,
  none,
  some ⟨.fn, 1, 8, [.fn]⟩,
  some ⟨.fn, 1, 8, [.fn]⟩,
  some ⟨.fn, 1, 8, [.fn]⟩,
  some ⟨.fn, 1, 8, [.fn]⟩,
  some ⟨(.struct [(0, 17), (1, 17), (2, 17), (3, 9)]), 4, 40, [.p, .p, .p, .s]⟩,
  some ⟨(.struct [(0, 17), (1, 17), (2, 17), (3, 9)]), 4, 40, [.p, .p, .p, .s]⟩,
  some ⟨(.arr 0 16), 0, 0, []⟩,
  some ⟨(.struct [(0, 172)]), 0, 0, []⟩,
  some ⟨(.struct [(0, 172)]), 0, 0, []⟩,
  some ⟨(.int .u8), 1, 1, [.i .u8]⟩,
  some ⟨(.int .u8), 1, 1, [.i .u8]⟩,
  some ⟨.fn, 1, 8, [.fn]⟩,
  some ⟨(.ptr 5), 1, 8, [.p]⟩,
  some ⟨(.int .i32), 1, 4, [.i .i32]⟩,
  some ⟨(.int .i32), 1, 4, [.i .i32]⟩,
  some ⟨(.struct [(0, 12), (1, 12), (2, 149), (3, 175), (4, 5), (5, 5), (6, 176), (7, 177), (8, 178), (9, 179), (10, 180)]), 11, 48, [.i .u64, .i .u64, .i .u32, .i .u8, .i .u8, .i .u8, .i .u8, .fn, .p, .i .i32, .i .i32]⟩,
  some ⟨(.struct [(0, 12), (1, 12), (2, 149), (3, 175), (4, 5), (5, 5), (6, 176), (7, 177), (8, 178), (9, 179), (10, 180)]), 11, 48, [.i .u64, .i .u64, .i .u32, .i .u8, .i .u8, .i .u8, .i .u8, .fn, .p, .i .i32, .i .i32]⟩,
  none]
def G : Nat → Option TI := tab L
theorem hG : Fits Try.prog G := tab_fits (by kernel_rfl)
end Go.Proofs.Ythfgocinlbogeaa
set_option maxHeartbeats 4000000
namespace Go.Proofs.Ythfgocinlbogeaa
open Go.Ts
attribute [local irreducible] Go.Ts.AW Go.Ts.AOps Go.Ts.AL Go.Ts.AOp Go.Ts.ACalls Go.Ts.DL
theorem mix : Try.prog.follows .mixedOrders = true := by kernel_rfl

theorem clone_b {x : T} {b : List UInt8} (hx : bytesT x = some b) (hl : b.length ≤ 4294967296) : Owns Try.prog 44 [x] 1 (b.map bT) := by
  refine Owns.weak (us := [sT b]) ?_ (wk1 (bytesT_wk hx))
  intro off
  refine Af (N := 8) (rs := [.tmp 2]) hG Try.func44 rfl rfl rfl rfl rfl ?_
  repeat' (first | (show AL _ _ _ _ _ _ _ _; first | refine so0 ?_ | (refine sa ?_; intro k)) | (show AW _ _ _ _ _ _; first | (show AW _ _ (.region _ _ _) _ _ _; refine sc0 ?_; intro O1) | (refine sc0 ?_; try intro Q1)) | (show (_ → _) ∧ _; refine ⟨fun h => ?_, fun h => ?_⟩) | fail)
  refine Ac rfl (op_eqnil hG rfl rfl rfl rfl rfl rfl rfl rfl (fun b hb => ?_))
  cases b with
  | true =>
    repeat' (first | (show AL _ _ _ _ _ _ _ _; first | refine so0 ?_ | (refine sa ?_; intro k)) | (show AW _ _ _ _ _ _; first | (show AW _ _ (.region _ _ _) _ _ _; refine sc0 ?_; intro O1) | (refine sc0 ?_; try intro Q1)) | (show (_ → _) ∧ _; refine ⟨fun h => ?_, fun h => ?_⟩) | fail)
    exact ret_owns0 (sz := 1) (Ae rfl Ag) rfl rfl (by rw [hb rfl]) rfl
  | false =>
    repeat' (first | (show AL _ _ _ _ _ _ _ _; first | refine so0 ?_ | (refine sa ?_; intro k)) | (show AW _ _ _ _ _ _; first | (show AW _ _ (.region _ _ _) _ _ _; refine sc0 ?_; intro O1) | (refine sc0 ?_; try intro Q1)) | (show (_ → _) ∧ _; refine ⟨fun h => ?_, fun h => ?_⟩) | fail)
    exact ret_owns 0 (Ae rfl Ag) rfl (by rfl) rfl

def be (v : Nat) : Nat → List UInt8
  | 0 => []
  | n + 1 => UInt8.ofNat (v / 2 ^ (8 * n)) :: be v n
def putI (v n : Int) : List UInt8 := if 0 ≤ n ∧ n ≤ 8 then be v.toNat n.toNat else []
theorem be_length (v n : Nat) : (be v n).length = n := by induction n <;> simp [be, *]
theorem putI_le (v n : Int) : (putI v n).length ≤ 8 := by
  unfold putI; split
  · rw [be_length]; omega
  · simp
theorem bT_of (n : Int) (k : Nat) (h : n = (k : Int)) : T.int .u8 (IntKind.u8.wrap n) = bT (UInt8.ofNat k) := by
  subst h; rw [u8_wrap]; unfold bT; congr 1

structure PutX (v n : Int) where
  hn : 0 ≤ n ∧ n ≤ 8
  i : Nat
  pre : List UInt8
  k : Nat
  hi : i ≤ 8
  hp : pre ++ be v.toNat i = be v.toNat n.toNat
theorem num_Put {x : T} {b : List UInt8} {v n : Int} (hx : bytesT x = some b) (hl : b.length ≤ 4294967000) (hv : 0 ≤ v) :
    Owns Try.prog 12 [x, .int .u64 v, .int .i64 n] 1 ((b ++ putI v n).map bT) := by
  refine Owns.weak (us := [sT b, .int .u64 v, .int .i64 n]) ?_ (wk3 (bytesT_wk hx) (.refl _) (.refl _))
  intro off
  refine Af (N := 33) (rs := [.tmp 6]) hG Try.func12 rfl rfl rfl rfl rfl ?_
  repeat' (first | (show AL _ _ _ _ _ _ _ _; first | refine so0 ?_ | (refine sa ?_; intro k)) | (show AW _ _ _ _ _ _; first | (show AW _ _ (.region _ _ _) _ _ _; refine sc0 ?_; intro O1) | (refine sc0 ?_; try intro Q1)) | (show (_ → _) ∧ _; refine ⟨fun h => ?_, fun h => ?_⟩) | fail)
  refine aw_scope' 0 rfl (X := PutX v n) (fun x => [(1, .int .u64 v), (7, .sl 1 (.tok x.k) ((b ++ x.pre).map bT)), (8, .int .i64 x.i)]) (fun x => ⟨[], [x.k], off, none⟩) (fun x => x.i) ?_ ?_
  · rintro ⟨hn, i, pre, k, hi, hp⟩
    dsimp only
    repeat' (first | (show AL _ _ _ _ _ _ _ _; first | refine so0 ?_ | (refine sa ?_; intro k)) | (show AW _ _ _ _ _ _; first | (show AW _ _ (.region _ _ _) _ _ _; refine sc0 ?_; intro O1) | (refine sc0 ?_; try intro Q1)) | (show (_ → _) ∧ _; refine ⟨fun h => ?_, fun h => ?_⟩) | fail)
    · obtain ⟨j, rfl⟩ : ∃ j, i = j + 1 := ⟨i - 1, by omega⟩
      have hpl2 : pre.length + (j + 1) = n.toNat := by have := congrArg List.length hp; simpa [be_length] using this
      have hbyte : T.int IntKind.u8 (IntKind.u8.wrap ((v : Int) / 2 ^ (min (8 * (((j + 1 : Nat) : Int) - 1)).toNat IntKind.u64.bits))) = bT (UInt8.ofNat (v.toNat / 2 ^ (8 * j))) := by
        have : min (8 * (((j + 1 : Nat) : Int) - 1)).toNat IntKind.u64.bits = 8 * j := by simp [IntKind.bits]; omega
        rw [this]
        obtain ⟨v, rfl⟩ := Int.eq_ofNat_of_zero_le hv
        exact bT_of _ _ (by simp)
      refine Ac rfl (r_appm 0 (ys := [UInt8.ofNat (v.toNat / 2 ^ (8 * j))]) hG rfl rfl rfl rfl rfl rfl rfl ⟨_, rfl⟩ rfl rfl rfl rfl (congrArg (fun t => [t]) hbyte) (by simp; omega) (fun k' => ?_))
      repeat' (first | (show AL _ _ _ _ _ _ _ _; first | refine so0 ?_ | (refine sa ?_; intro k)) | (show AW _ _ _ _ _ _; first | (show AW _ _ (.region _ _ _) _ _ _; refine sc0 ?_; intro O1) | (refine sc0 ?_; try intro Q1)) | (show (_ → _) ∧ _; refine ⟨fun h => ?_, fun h => ?_⟩) | fail)
      refine ⟨rfl, ⟨hn, j, pre ++ [UInt8.ofNat (v.toNat / 2 ^ (8 * j))], k', by omega, by rw [List.append_assoc]; exact hp⟩, by dsimp only; omega, ?_, .refl _⟩
      exact .cons rfl (.consW rfl (.eq (by simp)) (.consW rfl (.int (by simp)) (.nil _)))
    · have : i = 0 := by omega
      subst this
      simp only [be, List.append_nil] at hp
      exact ret_owns 0 (Ae rfl Ag) rfl (by rw [hp, putI, if_pos hn]) rfl
  · intro key
    repeat' (first | (show AL _ _ _ _ _ _ _ _; first | refine so0 ?_ | (refine sO Y Y Y Y Y Y (by apply clone_b <;> exact sd) ?_; intro k) | (refine sa ?_; intro k)) | (show AW _ _ _ _ _ _; first | (show AW _ _ (.region _ _ _) _ _ _; refine sc0 ?_; intro O1) | (refine sc0 ?_; try intro Q1)) | (show (_ → _) ∧ _; refine ⟨fun h => ?_, fun h => ?_⟩) | fail)
    · exact ret_owns 0 (Ae rfl Ag) rfl (by rw [putI, if_neg (by omega), List.append_nil]) rfl
    · exact ret_owns 0 (Ae rfl Ag) rfl (by rw [putI, if_neg (by omega), List.append_nil]) rfl
    · refine aw_label ?_
      show AW _ _ _ _ _ _
      refine aw_forget ?_ (key ⟨by omega, n.toNat, [], k, by omega, rfl⟩)
      exact .cons rfl (.consW rfl (.eq (by simp)) (.consW rfl (.int (by simp; omega)) (.nil _)))

end Go.Proofs.Ythfgocinlbogeaa
set_option maxHeartbeats 4000000
namespace Go.Proofs.Ythfgocinlbogeaa
open Go.Ts
set_option linter.unusedSimpArgs false
set_option linter.unusedVariables false
attribute [local irreducible] Go.Ts.AW Go.Ts.AOps Go.Ts.AL Go.Ts.AOp Go.Ts.ACalls Go.Ts.DL Go.Ts.DQ0 Go.Ts.EL
theorem cmp_isNaN (x : Nat) : Ts.Pure Try.prog 124 [mT x] (.bool false) := by
  intro off
  refine Af (N := 6) (rs := [.tmp 2]) hG Try.func124 rfl rfl rfl rfl rfl ?_
  repeat' (first | (show AL _ _ _ _ _ _ _ _; first | refine so0 ?_) | (show AW _ _ _ _ _ _; first | (show AW _ _ (.region _ _ _) _ _ _; refine sc0 ?_; intro O1) | (refine sc0 ?_; try intro Q1)) | (show (_ → _) ∧ _; refine ⟨fun h => ?_, fun h => ?_⟩) | fail)
  exact Bj (Ae rfl Ag) (.refl _) rfl
theorem Au (x y : Nat) : Ts.Pure Try.prog 109 [mT x, mT y] (.bool (ltQ x y)) := by
  intro off
  refine Af (N := 17) (rs := [.tmp 4]) hG Try.func109 rfl rfl rfl rfl rfl ?_
  repeat' (first | (show AL _ _ _ _ _ _ _ _; first | refine so0 ?_ | refine sp Y Y Y Y Y Y (by apply cmp_isNaN <;> exact sd) ?_) | (show AW _ _ _ _ _ _; first | (show AW _ _ (.region _ _ _) _ _ _; refine sc0 ?_; intro O1) | (refine sc0 ?_; try intro Q1)) | (show (_ → _) ∧ _; refine ⟨fun h => ?_, fun h => ?_⟩) | fail)
  · exact Bj (Ae rfl Ag) (by rw [show ltQ x y = true from decide_eq_true (by omega)]; exact .refl _) rfl
  · exact Bj (Ae rfl Ag) (by rw [show ltQ x y = false from decide_eq_false (by omega)]; exact .refl _) rfl
open Go.Sort in
structure InX (a i0 n : Nat) (d0 : Array Nat) where
  j : Nat
  d : Array Nat
  hn : d.size = n
  hj : j ≤ i0
  hr : insInner ltQ a j d = insInner ltQ a i0 d0
open Go.Sort in
structure OuX (a b n : Nat) (d0 : Array Nat) where
  i : Nat
  d : Array Nat
  hn : d.size = n
  hi : a < i
  hr : insOuter ltQ a b i d = insertionSort ltQ d0 a b
open Go.Sort in
theorem srt_ins {d0 : Array Nat} {a b : Nat} (hab : b ≤ d0.size) (hs : d0.size ≤ 4294967296) (ha : a ≤ d0.size) : OnRow Try.prog 103 mT [.int .i64 (a : Int), .int .i64 (b : Int)] d0 (.tup []) (insertionSort ltQ d0 a b) := by
  intro off i n cap hn
  refine Af (N := 49) (rs := []) hG Try.func103 rfl rfl rfl rfl rfl ?_
  repeat' (first | (show AL _ _ _ _ _ _ _ _; first | refine so4 ?_) | (show DL _ _ _ _ _ _ _; first | refine do4 ?_) | (show AW _ _ _ _ _ _; first | (show AW _ _ (.region _ _ _) _ _ _; refine sc0 ?_; intro O1) | (refine sc1 ?_; try intro Q1)) | (show (_ → _) ∧ _; refine ⟨fun h => ?_, fun h => ?_⟩) | fail)
  refine A5 (X := OuX a b n d0) (fun x => [(0, .aref 1 i 0 n cap), (1, .int .i64 (a : Int)), (2, .int .i64 (b : Int)), (6, .int .i64 (x.i : Int))]) (fun x => ⟨[(i, .cells (rowT mT x.d))], [], off, none⟩) (fun x => b - x.i) ⟨a + 1, d0, hn, by omega, rfl⟩ (by repeat (first | exact .nil _ | refine .cons rfl ?_)) (.refl _) ?_
  rintro ⟨k, d, hdn, hk, hr⟩
  dsimp only at hr ⊢
  by_cases hkb : k < b
  · repeat' (first | (show AL _ _ _ _ _ _ _ _; first | refine so4 ?_) | (show DL _ _ _ _ _ _ _; first | refine do4 ?_) | (show AW _ _ _ _ _ _; first | (show AW _ _ (.region _ _ _) _ _ _; refine sc0 ?_; intro O1) | (refine sc1 ?_; try intro Q1)) | (show (_ → _) ∧ _; refine ⟨fun h => ?_, fun h => ?_⟩) | fail)
    refine A5 (X := InX a k n d) (fun x => [(0, .aref 1 i 0 n cap), (1, .int .i64 (a : Int)), (2, .int .i64 (b : Int)), (6, .int .i64 (k : Int)), (7, .int .i64 (x.j : Int))]) (fun x => ⟨[(i, .cells (rowT mT x.d))], [], off, none⟩) (fun x => x.j) ⟨k, d, hdn, Nat.le_refl _, rfl⟩ (by repeat (first | exact .nil _ | refine .cons rfl ?_)) (.refl _) ?_
    rintro ⟨j, e, hen, hj, hre⟩
    dsimp only at hre hr ⊢
    repeat' (first | (show AL _ _ _ _ _ _ _ _; first | refine so4 ?_ | refine sp Y Y Y Y Y Y (by apply Au <;> exact sd) ?_) | (show DL _ _ _ _ _ _ _; first | refine do4 ?_ | refine dp Y Y Y Y Y Y Y (by apply Au <;> exact sd) ?_) | (show AW _ _ _ _ _ _; (fail_if_success show AW _ _ (.region 6 _ _) _ _ _); first | (show AW _ _ (.region _ _ _) _ _ _; refine sc0 ?_; intro O1) | (refine sc1 ?_; try intro Q1)) | (show (_ → _) ∧ _; refine ⟨fun h => ?_, fun h => ?_⟩) | fail)
    · have h1 : a < j := by omega
      refine Bg (m := 16) [15] [9, 13] (fun σ => ∃ c : Array Nat, c.size = n ∧ σ = ⟨[(i, .cells (rowT mT c))], [], off, none⟩) mix Y Y (by repeat (first | exact Sp.zero _ | apply Sp.succ)) ?_; intro O1 F1 Z1 Q2; repeat' (first
    | (refine' dq0_cons Y Y Y Y (fun σ hσ K kk => ?_) ?_; (try (show Go.Ts.T; rotate_left)); (obtain ⟨c, hcn, hcs⟩ := hσ; subst hcs); (first
      | (show AOp _ _ ⟨_, .move _, _, _, _, _⟩ _ _ _; refine r_move hG Y Y ?_)
      | (show AOp _ _ ⟨_, .assign _, _, _, _, _⟩ _ _ _; refine r_asg hG Y Y ?_)
      | (show AOp _ _ ⟨_, .binOp .add _ _ _ _, _, _, _, _⟩ _ _ _; first | refine Ah hG Y Y Y Y Y (by omega) ?_ | refine Ah (m := 1) hG Y Y Y Y Y (by omega) ?_ | refine Ao hG Y Y Y Y Y (by omega) ?_)
      | (show AOp _ _ ⟨_, .binOp .sub _ _ _ _, _, _, _, _⟩ _ _ _; first | refine A8 hG Y Y Y Y (by omega) ?_ | refine A8 (m := 1) hG Y Y Y Y (by omega) ?_ | refine r_subU (m := 1) hG Y Y Y Y (by omega) ?_ | refine Ao hG Y Y Y Y Y (by omega) ?_)
      | (show AOp _ _ ⟨_, .binOp _ _ _ _ _, _, _, _, _⟩ _ _ _; first | refine r_cmpT hG Y Y Y Y Y (by omega) ?_ | refine r_cmpF hG Y Y Y Y Y (by omega) ?_)
      | (show AOp _ _ ⟨_, .load _ _, _, _, _, _⟩ _ _ _; first | refine Ar (α := Nat) 0 hG Y Y Y Y (by omega) Y ?_ | refine Ar (α := Nat) 1 hG Y Y Y Y (by omega) Y ?_ | refine r_ldro hG Y Y Y ?_ | refine r_ld 0 hG Y Y Y Y ?_)
      | (show AOp _ _ ⟨_, .indexAddr _ _ _, _, _, _, _⟩ _ _ _; first | refine r_idxL hG Y Y Y Y Y Y Y (by omega) ?_ | refine r_idxn hG Y Y Y Y Y Y Y (by omega) ?_ | refine r_idxm hG Y Y Y Y Y Y Y (by omega) ?_ | refine r_idx hG Y Y ?_)
      | (show AOp _ _ ⟨_, .pick _ _ _, _, _, _, _⟩ _ _ _; refine r_pick hG Y Y Y ?_)
      | (show AOp _ _ ⟨_, .store _ _ _, _, _, _, _⟩ _ _ _; first | refine At (α := Nat) 0 hG Y Y Y Aj Aw Y Y (by first | omega | (simp only [Array.size_setIfInBounds]; omega)) ?_ | refine At (α := Nat) 1 hG Y Y Y Aj Aw Y Y (by first | omega | (simp only [Array.size_setIfInBounds]; omega)) ?_ | refine r_st 0 hG Y Y Y Y Y Y Y ?_)
      | refine r_q hG Y Y Y ?_); exact kk)
    | (refine' Bi Y Y Y Y (fun K kk => ?_) ?_; (try (show Go.Ts.T; rotate_left)); (first | refine Ar 0 hG Y Y Y Y (by omega) Y ?_ | refine Ar 1 hG Y Y Y Y (by omega) Y ?_); exact kk)
    | refine dq0_e Y ?_ | (refine dq0_nil ?_; show EL _ _ _ _ _ _ _ _ _)
    | (refine Ba ⟨_, (by first | assumption | (simp only [Array.size_setIfInBounds]; omega)), Y⟩ Y Y Y (fun K ke => ?_); (first | refine At (α := Nat) 0 hG Y Y Y Aj Aw Y Y (by first | omega | (simp only [Array.size_setIfInBounds]; omega)) ?_ | refine At (α := Nat) 1 hG Y Y Y Aj Aw Y Y (by first | omega | (simp only [Array.size_setIfInBounds]; omega)) ?_); refine ke (.tup []) _ ?_)
    | (refine el_nil ⟨_, (by first | assumption | (simp only [Array.size_setIfInBounds]; omega)), Y⟩ ?_; show AL _ _ _ _ _ _ _ _) | fail)
      repeat' (first | (show AL _ _ _ _ _ _ _ _; first | refine so4 ?_) | (show DL _ _ _ _ _ _ _; first | refine do4 ?_) | (show AW _ _ _ _ _ _; first | (show AW _ _ (.region _ _ _) _ _ _; refine sc0 ?_; intro O1) | (refine sc1 ?_; try intro Q1)) | (show (_ → _) ∧ _; refine ⟨fun h => ?_, fun h => ?_⟩) | fail)
      obtain ⟨m, rfl⟩ : ∃ m, j = m + 1 := ⟨j - 1, by omega⟩
      refine ⟨⟨m, swp e (m + 1) m, by rw [size_swp]; exact hen, by omega, ?_⟩, by dsimp only; omega, (by repeat (first | exact .nil _ | refine .cons rfl ?_)), .refl _⟩
      have h2 : ltQ e[m + 1]! e[m]! = true := h
      rw [← hre, insInner, if_pos (by simp [h2]; omega)]
    · have h1 : a < j := by omega
      refine ⟨⟨k + 1, e, hen, by omega, ?_⟩, by dsimp only; omega, (by repeat (first | exact .nil _ | refine .cons rfl ?_)), .refl _⟩
      obtain ⟨m, rfl⟩ : ∃ m, j = m + 1 := ⟨j - 1, by omega⟩
      have h2 : ltQ e[m + 1]! e[m]! = false := h
      rw [insInner, if_neg (by simp [h2])] at hre
      rw [insOuter, if_pos hkb, ← hre] at hr
      exact hr
    · have h1 : ¬ a < j := by omega
      refine ⟨⟨k + 1, e, hen, by omega, ?_⟩, by dsimp only; omega, (by repeat (first | exact .nil _ | refine .cons rfl ?_)), .refl _⟩
      have hre2 : e = insInner ltQ a k d := by
        rw [← hre]
        cases j with
        | zero => rfl
        | succ m => rw [insInner, if_neg (by simp; omega)]
      rw [insOuter, if_pos hkb, ← hre2] at hr
      exact hr
  · repeat' (first | (show AL _ _ _ _ _ _ _ _; first | refine so4 ?_) | (show DL _ _ _ _ _ _ _; first | refine do4 ?_) | (show AW _ _ _ _ _ _; first | (show AW _ _ (.region _ _ _) _ _ _; refine sc0 ?_; intro O1) | (refine sc1 ?_; try intro Q1)) | (show (_ → _) ∧ _; refine ⟨fun h => ?_, fun h => ?_⟩) | fail)
    have hd : d = insertionSort ltQ d0 a b := by rw [← hr, insOuter, if_neg hkb]
    subst hd
    refine Be ?_
    dsimp (config := { zetaDelta := true }) only [A7, Am]
    refine ret_rowE 0 Ag ?_ (.refl _) ?_ <;> rfl
end Go.Proofs.Ythfgocinlbogeaa
set_option maxHeartbeats 4000000
namespace Go.Ts
section
variable {P : Program} {G : Nat → Option TI} {N : Nat} {σ : St} {a : Env} {K : Env → St → Prop} {d : Tmp} {ty : TypeId} {pos : String} {af : Array Edge} {gd : Option (Nat × Bool)} {α : Type}
def OnRowC (P : Program) (g : FuncId) (f : α → T) (ts : List T) (c : Array α) (s : Nat) (r : T) (s' : Nat) : Prop :=
  ∀ off i n cap j, c.size = n → ACalls P g (.aref 1 i 0 n cap :: (ts ++ [.ptr j 0])) ⟨[(j, .cells [.int .i64 (s : Int)]), (i, .cells (rowT f c))], [], off, none⟩ (fun u σ' => σ' = ⟨[(j, .cells [.int .i64 (s' : Int)]), (i, .cells (rowT f c))], [], off, none⟩ ∧ u = r)
theorem OnRowC.calls {g : FuncId} {f : α → T} {ts : List T} {c : Array α} {s s' : Nat} {r : T} {i n j : Nat} {cap : Option Nat} {Lf : List (Nat × Ob)} (h : OnRowC P g f ts c s r s') (hnx : σ.nx = none) (hL : σ.L = (j, .cells [.int .i64 (s : Int)]) :: (i, .cells (rowT f c)) :: Lf) (hn : c.size = n) {K : T → St → Prop}
    (k : K r { σ with L := (j, .cells [.int .i64 (s' : Int)]) :: (i, .cells (rowT f c)) :: Lf }) : ACalls P g (.aref 1 i 0 n cap :: (ts ++ [.ptr j 0])) σ K := by
  refine (frame (Ls := [(j, .cells [.int .i64 (s : Int)]), (i, .cells (rowT f c))]) (Lf := Lf) (by rw [hL]; exact List.Perm.refl _) (R := fun u L R' => L = [(j, .cells [.int .i64 (s' : Int)]), (i, .cells (rowT f c))] ∧ R' = [] ∧ u = r) hnx fun off => (h off i n cap j hn).mono fun u σ' ⟨h1, h2⟩ => by subst h1; exact ⟨rfl, rfl, rfl, h2⟩).mono ?_
  rintro u σ' ⟨L', R', ⟨rfl, rfl, rfl⟩, rfl⟩
  obtain ⟨L, R1, off, nx⟩ := σ
  simp only at hnx; subst hnx
  exact k
theorem r_rowC {f : Operand} {args : Array Operand} {tys : Array TypeId} {g : FuncId} {F : α → T} {ts us : List T} {c : Array α} {s s' : Nat} {r : T} {i n j : Nat} {cap : Option Nat} {Lf : List (Nat × Ob)}
    (h : OnRowC P g F ts c s r s') (hf : Ad a f = some (.fn (.func g) [])) (ha : argsT a args.toList = some us) (hu : us = .aref 1 i 0 n cap :: (ts ++ [.ptr j 0])) (hd : Ai N (some d) = true) (hnx : σ.nx = none) (hL : σ.L = (j, .cells [.int .i64 (s : Int)]) :: (i, .cells (rowT F c)) :: Lf)
    (hn : c.size = n) (k : K (put a (some d) r) { σ with L := (j, .cells [.int .i64 (s' : Int)]) :: (i, .cells (rowT F c)) :: Lf }) : AOp P N ⟨some d, .call ⟨.value f, args, tys⟩, ty, pos, af, gd⟩ a σ K := by
  subst hu
  refine op_call rfl hf ha rfl hd ?_
  rw [List.append_nil]
  exact h.calls hnx hL hn k
theorem ret_rowC {rs : List ResultVar} {ts : List T} {f : α → T} {c : Array α} {s : Nat} {r : T} {i j : Nat} (h : ResRs G a σ rs ts) (hn : σ.L = [(j, .cells [.int .i64 (s : Int)]), (i, .cells (rowT f c))]) (hw : Wk (tup1 ts) r) (hnx : σ.nx = none) :
    retA G rs (fun u σ' => σ' = ⟨[(j, .cells [.int .i64 (s : Int)]), (i, .cells (rowT f c))], [], σ.off, none⟩ ∧ u = r) .ret a σ := by
  refine ⟨ts, h, ((conv_drop (L' := [(j, .cells [.int .i64 (s : Int)]), (i, .cells (rowT f c))]) (R' := []) (by rw [hn]; exact List.Sublist.refl _) (List.nil_sublist _) hw).cr ⟨?_, rfl⟩)⟩
  rw [hnx]
end
end Go.Ts
namespace Go.Proofs.Ythfgocinlbogeaa
open Go.Ts
set_option linter.unusedSimpArgs false
set_option linter.unusedVariables false
attribute [local irreducible] Go.Ts.AW Go.Ts.AOps Go.Ts.AL Go.Ts.AOp Go.Ts.ACalls Go.Ts.DL Go.Ts.DQ0 Go.Ts.EL
open Go.Sort
theorem srt_ord2 {c : Array Nat} {p q s : Nat} (hp : p < c.size) (hq : q < c.size) (hz : c.size ≤ 4294967296) (hs : s ≤ 4294967296) : OnRowC Try.prog 129 mT [.int .i64 (p : Int), .int .i64 (q : Int)] c s
    (.tup [.int .i64 ((order2 ltQ c p q s).1 : Int), .int .i64 ((order2 ltQ c p q s).2.1 : Int)]) (order2 ltQ c p q s).2.2 := by
  intro off i n cap j hn
  refine Af (N := 28) (rs := [.tmp 8, .tmp 9]) hG Try.func129 rfl rfl rfl rfl rfl ?_
  repeat' (first | (show AL _ _ _ _ _ _ _ _; first | refine so3 ?_ | refine sp Y Y Y Y Y Y (by apply Au <;> exact sd) ?_) | (show DL _ _ _ _ _ _ _; first | refine do3 ?_ | refine dp Y Y Y Y Y Y Y (by apply Au <;> exact sd) ?_) | (show AW _ _ _ _ _ _; first | (show AW _ _ (.region _ _ _) _ _ _; refine sc0 ?_; intro O1) | (refine sc1 ?_; try intro Q1)) | (show (_ → _) ∧ _; refine ⟨fun h => ?_, fun h => ?_⟩) | fail)
  · have ho : order2 ltQ c p q s = (q, p, s + 1) := by unfold order2; rw [if_pos h]
    try dsimp (config := { zetaDelta := true }) only [A7, Am]
    rw [ho]
    refine ret_rowC (Ae rfl (Ae rfl Ag)) ?_ (.refl _) ?_ <;> rfl
  · have ho : order2 ltQ c p q s = (p, q, s) := by unfold order2; rw [if_neg (by rw [h]; simp)]
    rw [ho]
    refine ret_rowC (Ae rfl (Ae rfl Ag)) ?_ (.refl _) ?_ <;> rfl
theorem srt_med {c : Array Nat} {p q r s : Nat} (hp : p < c.size) (hq : q < c.size) (hr : r < c.size) (hz : c.size ≤ 4294967296) (hs : s ≤ 1000) : OnRowC Try.prog 123 mT [.int .i64 (p : Int), .int .i64 (q : Int), .int .i64 (r : Int)] c s
    (.int .i64 ((median ltQ c p q r s).1 : Int)) (median ltQ c p q r s).2 := by
  have hm : median ltQ c p q r s = (let r1 := order2 ltQ c p q s; let r2 := order2 ltQ c r1.2.1 r r1.2.2; let r3 := order2 ltQ c r1.1 r2.1 r2.2.2; (r3.2.1, r3.2.2)) := rfl
  rw [hm]
  have h1 := srt_ord2 (s := s) hp hq hz (by omega)
  have m1 := order2_mem ltQ c p q s
  have n1 := order2_count (lt := ltQ) c p q s
  generalize order2 ltQ c p q s = r1 at *
  have h2 := srt_ord2 (p := r1.2.1) (q := r) (s := r1.2.2) (by omega) hr hz (by omega)
  have m2 := order2_mem ltQ c r1.2.1 r r1.2.2
  have n2 := order2_count (lt := ltQ) c r1.2.1 r r1.2.2
  dsimp only
  generalize order2 ltQ c r1.2.1 r r1.2.2 = r2 at *
  have h3 := srt_ord2 (p := r1.1) (q := r2.1) (s := r2.2.2) (by omega) (by omega) hz (by omega)
  generalize order2 ltQ c r1.1 r2.1 r2.2.2 = r3 at *
  clear hm
  intro off i n cap j hn
  refine Af (N := 36) (rs := [.tmp 10]) hG Try.func123 rfl rfl rfl rfl rfl ?_
  repeat' (first | (show AL _ _ _ _ _ _ _ _; first | refine so3 ?_ | (refine Ac Y (r_rowC h1 Y Y Y Y Y Y (by assumption) ?_)) | (refine Ac Y (r_rowC h2 Y Y Y Y Y Y (by assumption) ?_)) | (refine Ac Y (r_rowC h3 Y Y Y Y Y Y (by assumption) ?_))) | (show AW _ _ _ _ _ _; first | (show AW _ _ (.region _ _ _) _ _ _; refine sc0 ?_; intro O1) | (refine sc1 ?_; try intro Q1)) | (show (_ → _) ∧ _; refine ⟨fun h => ?_, fun h => ?_⟩) | fail)
  try dsimp (config := { zetaDelta := true }) only [A7, Am]
  refine ret_rowC (Ae rfl Ag) ?_ (.refl _) ?_ <;> rfl
theorem srt_mad {c : Array Nat} {p s : Nat} (h1 : 1 ≤ p) (hp : p + 1 < c.size) (hz : c.size ≤ 4294967296) (hs : s ≤ 1000) : OnRowC Try.prog 122 mT [.int .i64 (p : Int)] c s
    (.int .i64 ((medianAdjacent ltQ c p s).1 : Int)) (medianAdjacent ltQ c p s).2 := by
  have h := srt_med (c := c) (p := p - 1) (q := p) (r := p + 1) (s := s) (by omega) (by omega) (by omega) hz hs
  intro off i n cap j hn
  refine Af (N := 15) (rs := [.tmp 6]) hG Try.func122 rfl rfl rfl rfl rfl ?_
  repeat' (first | (show AL _ _ _ _ _ _ _ _; first | refine so3 ?_ | (refine Ac Y (r_rowC h Y Y Y Y Y Y (by assumption) ?_))) | (show AW _ _ _ _ _ _; first | (show AW _ _ (.region _ _ _) _ _ _; refine sc0 ?_; intro O1) | (refine sc1 ?_; try intro Q1)) | (show (_ → _) ∧ _; refine ⟨fun h => ?_, fun h => ?_⟩) | fail)
  try dsimp (config := { zetaDelta := true }) only [A7, Am]
  refine ret_rowC (Ae rfl Ag) ?_ (.refl _) ?_ <;> rfl
set_option maxHeartbeats 9000000 in
theorem srt_piv {c : Array Nat} {a b : Nat} (h8 : 8 ≤ b - a) (hb : b ≤ c.size) (hz : c.size ≤ 4294967296) : OnRow Try.prog 106 mT [.int .i64 (a : Int), .int .i64 (b : Int)] c
    (.tup [.int .i64 ((choosePivot ltQ c a b).1 : Int), .int .i64 (hintCode (choosePivot ltQ c a b).2)]) c := by
  intro off i n cap hn
  rw [choosePivot_eq]
  obtain ⟨l, hl⟩ : ∃ l, l = b - a := ⟨_, rfl⟩
  by_cases h50 : 50 ≤ b - a
  · have hr : rawPivot ltQ c a b = (let r1 := medianAdjacent ltQ c (a + (b - a) / 4 * 1) 0; let r2 := medianAdjacent ltQ c (a + (b - a) / 4 * 2) r1.2; let r3 := medianAdjacent ltQ c (a + (b - a) / 4 * 3) r2.2; median ltQ c r1.1 r2.1 r3.1 r3.2) := by
      unfold rawPivot; simp only [ge_iff_le]; rw [if_pos h8, if_pos h50]
    have h1 := srt_mad (c := c) (p := a + (b - a) / 4 * 1) (s := 0) (by omega) (by omega) hz (by omega)
    have m1 := medianAdjacent_mem ltQ c (a + (b - a) / 4 * 1) 0
    have n1 := medianAdjacent_count (lt := ltQ) c (a + (b - a) / 4 * 1) 0
    dsimp only at hr
    generalize medianAdjacent ltQ c (a + (b - a) / 4 * 1) 0 = r1 at *
    have h2 := srt_mad (c := c) (p := a + (b - a) / 4 * 2) (s := r1.2) (by omega) (by omega) hz (by omega)
    have m2 := medianAdjacent_mem ltQ c (a + (b - a) / 4 * 2) r1.2
    have n2 := medianAdjacent_count (lt := ltQ) c (a + (b - a) / 4 * 2) r1.2
    generalize medianAdjacent ltQ c (a + (b - a) / 4 * 2) r1.2 = r2 at *
    have h3 := srt_mad (c := c) (p := a + (b - a) / 4 * 3) (s := r2.2) (by omega) (by omega) hz (by omega)
    have m3 := medianAdjacent_mem ltQ c (a + (b - a) / 4 * 3) r2.2
    have n3 := medianAdjacent_count (lt := ltQ) c (a + (b - a) / 4 * 3) r2.2
    generalize medianAdjacent ltQ c (a + (b - a) / 4 * 3) r2.2 = r3 at *
    have h4 := srt_med (c := c) (p := r1.1) (q := r2.1) (r := r3.1) (s := r3.2) (by omega) (by omega) (by omega) hz (by omega)
    rw [hr]
    generalize median ltQ c r1.1 r2.1 r3.1 r3.2 = R at *
    refine Af (N := 57) (rs := [.tmp 6, .tmp 7]) hG Try.func106 rfl rfl rfl rfl rfl ?_
    repeat' (first | (show AL _ _ _ _ _ _ _ _; first | refine so3 ?_ | (refine Ac Y (r_rowC h1 Y Y Y Y Y Y (by assumption) ?_)) | (refine Ac Y (r_rowC h2 Y Y Y Y Y Y (by assumption) ?_)) | (refine Ac Y (r_rowC h3 Y Y Y Y Y Y (by assumption) ?_)) | (refine Ac Y (r_rowC h4 Y Y Y Y Y Y (by assumption) ?_)) | (refine sb ?_; intro i)) | (show AW _ _ _ _ _ _; first | (show AW _ _ (.region _ _ _) _ _ _; refine sc0 ?_; intro O1) | (refine sc1 ?_; try intro Q1)) | (show (_ → _) ∧ _; refine ⟨fun h => ?_, fun h => ?_⟩) | fail)
    · have ho : hintOf R.2 = .increasing := by unfold hintOf; rw [if_pos (by omega)]
      try dsimp (config := { zetaDelta := true }) only [A7, Am]
      rw [ho]
      refine ret_row 1 (Ae rfl (Ae rfl Ag)) ?_ (.refl _) ?_ <;> rfl
    · have ho : hintOf R.2 = .decreasing := by unfold hintOf; rw [if_neg (by omega), if_pos (by omega)]
      try dsimp (config := { zetaDelta := true }) only [A7, Am]
      rw [ho]
      refine ret_row 1 (Ae rfl (Ae rfl Ag)) ?_ (.refl _) ?_ <;> rfl
    · have ho : hintOf R.2 = .unknown := by unfold hintOf; rw [if_neg (by omega), if_neg (by omega)]
      try dsimp (config := { zetaDelta := true }) only [A7, Am]
      rw [ho]
      refine ret_row 1 (Ae rfl (Ae rfl Ag)) ?_ (.refl _) ?_ <;> rfl
  · have hr : rawPivot ltQ c a b = median ltQ c (a + (b - a) / 4 * 1) (a + (b - a) / 4 * 2) (a + (b - a) / 4 * 3) 0 := by
      unfold rawPivot; simp only [ge_iff_le]; rw [if_pos h8, if_neg h50]
    have h := srt_med (c := c) (p := a + (b - a) / 4 * 1) (q := a + (b - a) / 4 * 2) (r := a + (b - a) / 4 * 3) (s := 0) (by omega) (by omega) (by omega) hz (by omega)
    rw [hr]
    generalize median ltQ c (a + (b - a) / 4 * 1) (a + (b - a) / 4 * 2) (a + (b - a) / 4 * 3) 0 = R at *
    refine Af (N := 57) (rs := [.tmp 6, .tmp 7]) hG Try.func106 rfl rfl rfl rfl rfl ?_
    repeat' (first | (show AL _ _ _ _ _ _ _ _; first | refine so3 ?_ | (refine Ac Y (r_rowC h Y Y Y Y Y Y (by assumption) ?_)) | (refine sb ?_; intro i)) | (show AW _ _ _ _ _ _; first | (show AW _ _ (.region _ _ _) _ _ _; refine sc0 ?_; intro O1) | (refine sc1 ?_; try intro Q1)) | (show (_ → _) ∧ _; refine ⟨fun h => ?_, fun h => ?_⟩) | fail)
    · have ho : hintOf R.2 = .increasing := by unfold hintOf; rw [if_pos (by omega)]
      try dsimp (config := { zetaDelta := true }) only [A7, Am]
      rw [ho]
      refine ret_row 1 (Ae rfl (Ae rfl Ag)) ?_ (.refl _) ?_ <;> rfl
    · have ho : hintOf R.2 = .decreasing := by unfold hintOf; rw [if_neg (by omega), if_pos (by omega)]
      try dsimp (config := { zetaDelta := true }) only [A7, Am]
      rw [ho]
      refine ret_row 1 (Ae rfl (Ae rfl Ag)) ?_ (.refl _) ?_ <;> rfl
    · have ho : hintOf R.2 = .unknown := by unfold hintOf; rw [if_neg (by omega), if_neg (by omega)]
      try dsimp (config := { zetaDelta := true }) only [A7, Am]
      rw [ho]
      refine ret_row 1 (Ae rfl (Ae rfl Ag)) ?_ (.refl _) ?_ <;> rfl
end Go.Proofs.Ythfgocinlbogeaa
set_option linter.unusedVariables false
set_option linter.unusedSimpArgs false
namespace Go.Ts

inductive Tr (α : Type) where
  | leaf
  | node (l : Tr α) (v : Option α) (r : Tr α)

def Tr.get {α : Type} : Tr α → Nat → Option α
  | .leaf, _ => none
  | .node l v r, i => cond (Nat.beq i 0) v (cond (Nat.beq (i % 2) 1) (l.get (i / 2)) (r.get (i / 2 - 1)))
def Tr.lft {α : Type} : Tr α → Tr α
  | .leaf => .leaf
  | .node l _ _ => l
def Tr.mid {α : Type} : Tr α → Option α
  | .leaf => none
  | .node _ v _ => v
def Tr.rgt {α : Type} : Tr α → Tr α
  | .leaf => .leaf
  | .node _ _ r => r
def Tr.up {α : Type} : Nat → Tr α → Nat → Option α → Tr α
  | 0, _, _, _ => .leaf
  | f + 1, t, i, x => cond (Nat.beq i 0) (.node t.lft x t.rgt) (cond (Nat.beq (i % 2) 1) (.node (Tr.up f t.lft (i / 2) x) t.mid t.rgt) (.node t.lft t.mid (Tr.up f t.rgt (i / 2 - 1) x)))
def Tr.set {α : Type} (t : Tr α) (i : Nat) (x : α) : Tr α := Tr.up 40 t i (some x)
def Tr.del {α : Type} (t : Tr α) (i : Nat) : Tr α := Tr.up 40 t i none

theorem Tr.get_parts {α : Type} (t : Tr α) (i : Nat) : t.get i = cond (Nat.beq i 0) t.mid (cond (Nat.beq (i % 2) 1) (t.lft.get (i / 2)) (t.rgt.get (i / 2 - 1))) := by
  cases t with
  | leaf => simp only [Tr.get, Tr.mid, Tr.lft, Tr.rgt]; cases Nat.beq i 0 <;> cases Nat.beq (i % 2) 1 <;> rfl
  | node l v r => rfl
theorem Tr.get_up {α : Type} : ∀ (f : Nat) (t : Tr α) (i : Nat) (x : Option α) (j : Nat) (y : α), (Tr.up f t i x).get j = some y → (j = i ∧ x = some y) ∨ (j ≠ i ∧ t.get j = some y)
  | 0, t, i, x, j, y, h => by simp [Tr.up, Tr.get] at h
  | f + 1, t, i, x, j, y, h => by
    simp only [Tr.up] at h
    rw [Tr.get_parts t j]
    by_cases hi : i = 0
    · subst hi
      simp only [Nat.beq_refl, cond_true, Tr.get] at h
      by_cases hj : j = 0
      · subst hj; simp at h; exact .inl ⟨rfl, h⟩
      · rw [beqF hj] at h ⊢; exact .inr ⟨hj, h⟩
    · rw [beqF hi, cond_false] at h
      by_cases hp : i % 2 = 1
      · rw [hp, Nat.beq_refl, cond_true] at h
        simp only [Tr.get] at h
        by_cases hj : j = 0
        · subst hj; simp only [Nat.beq_refl, cond_true] at h ⊢; exact .inr ⟨fun e => hi e.symm, h⟩
        · rw [beqF hj, cond_false] at h ⊢
          by_cases hq : j % 2 = 1
          · rw [hq, Nat.beq_refl, cond_true] at h ⊢
            rcases Tr.get_up f _ _ _ _ _ h with ⟨h1, h2⟩ | ⟨h1, h2⟩
            · exact .inl ⟨by omega, h2⟩
            · exact .inr ⟨fun e => h1 (by rw [e]), h2⟩
          · rw [beqF hq, cond_false] at h ⊢
            exact .inr ⟨fun e => hq (by rw [e]; exact hp), h⟩
      · rw [beqF hp, cond_false] at h
        simp only [Tr.get] at h
        by_cases hj : j = 0
        · subst hj; simp only [Nat.beq_refl, cond_true] at h ⊢; exact .inr ⟨fun e => hi e.symm, h⟩
        · rw [beqF hj, cond_false] at h ⊢
          by_cases hq : j % 2 = 1
          · rw [hq, Nat.beq_refl, cond_true] at h ⊢
            exact .inr ⟨fun e => hp (by rw [← e]; exact hq), h⟩
          · rw [beqF hq, cond_false] at h ⊢
            rcases Tr.get_up f _ _ _ _ _ h with ⟨h1, h2⟩ | ⟨h1, h2⟩
            · exact .inl ⟨by omega, h2⟩
            · exact .inr ⟨fun e => h1 (by rw [e]), h2⟩
theorem Tr.get_set {α : Type} {t : Tr α} {i : Nat} {x : α} {j : Nat} {y : α} (h : (t.set i x).get j = some y) : (j = i ∧ x = y) ∨ (j ≠ i ∧ t.get j = some y) := by
  rcases Tr.get_up _ _ _ _ _ _ h with ⟨h1, h2⟩ | h
  · injection h2 with h2; exact .inl ⟨h1, h2⟩
  · exact .inr h
theorem Tr.get_del {α : Type} {t : Tr α} {i : Nat} {j : Nat} {y : α} (h : (t.del i).get j = some y) : j ≠ i ∧ t.get j = some y := by
  rcases Tr.get_up _ _ _ _ _ _ h with ⟨h1, h2⟩ | h
  · cases h2
  · exact h
def Tr.ofFrom {α : Type} : Nat → List α → Tr α → Tr α
  | _, [], t => t
  | i, x :: l, t => Tr.ofFrom (i + 1) l (t.set i x)
def Tr.of {α : Type} (l : List α) : Tr α := Tr.ofFrom 0 l .leaf


inductive HO where
  | th (n zn : Nat) (z : List T) (ov : Tr T)
  | mp (es : List (T × T))
structure HS where
  L : Tr HO
  R : Tr Unit
  nx : Nat

def cellX (zn : Nat) (z : List T) (ov : Tr T) (j : Nat) : Option T :=
  match ov.get j with
  | some t => some t
  | none => cond (Nat.blt j zn) (z[j % z.length]?) none
def ThOK (zn : Nat) (z : List T) (ov : Tr T) (ts : List T) : Prop := ∀ j t, cellX zn z ov j = some t → ts[j]? = some t

def setCells (ov : Tr T) : Nat → List T → Tr T
  | _, [] => ov
  | p, t :: ts => setCells (ov.set p t) (p + 1) ts
theorem get_setCells : ∀ (l : List T) (ov : Tr T) (p j : Nat) (t : T), (setCells ov p l).get j = some t → (p ≤ j ∧ l[j - p]? = some t) ∨ ((j < p ∨ p + l.length ≤ j) ∧ ov.get j = some t)
  | [], ov, p, j, t, h => .inr ⟨by simp; omega, h⟩
  | x :: l, ov, p, j, t, h => by
    rcases get_setCells l _ (p + 1) j t h with ⟨h1, h2⟩ | ⟨h1, h2⟩
    · exact .inl ⟨by omega, by rw [show j - p = (j - (p + 1)) + 1 by omega]; simpa using h2⟩
    · rcases Tr.get_set h2 with ⟨h3, h4⟩ | ⟨h3, h4⟩
      · subst h3; subst h4; exact .inl ⟨Nat.le_refl _, by simp⟩
      · exact .inr ⟨by simp; omega, h4⟩
def CovE (a : Env) (e : Tr T) : Prop := ∀ i t, e.get i = some t → get a i = some t
def putX (e : Tr T) : Option Tmp → T → Tr T
  | some d, t => e.set d t
  | none, _ => e
theorem CovE.put {a : Env} {e : Tr T} (h : CovE a e) (d : Option Tmp) (t : T) : CovE (put a d t) (putX e d t) := by
  intro i u hi
  cases d with
  | none => exact h i u hi
  | some d =>
    rcases Tr.get_set hi with ⟨h1, h2⟩ | ⟨h1, h2⟩
    · subst h1; subst h2; simp [Ts.put, get]
    · simp only [Ts.put, get]; rw [beqF (fun e => h1 e.symm), cond_false]; exact h i u h2
def evX (e : Tr T) : Operand → Option T
  | .tmp t => e.get t
  | .const v => some (constT v)
  | .global _ => none
  | .func f => some (.fn (.func f) [])
theorem CovE.ev {a : Env} {e : Tr T} (h : CovE a e) {x : Operand} {t : T} (hx : evX e x = some t) : Ad a x = some t := by
  cases x with
  | tmp i => exact h i t hx
  | const v => exact hx
  | global g => cases hx
  | func f => exact hx
structure HCov (σ : St) (h : HS) : Prop where
  th : ∀ i n zn z ov, h.L.get i = some (.th n zn z ov) → ∃ ts, (i, .cells ts) ∈ σ.L ∧ ts.length = n ∧ ThOK zn z ov ts
  mp : ∀ i es, h.L.get i = some (.mp es) → (i, .map es) ∈ σ.L
  room : ∀ k u, h.R.get k = some u → k ∈ σ.R
  nx : σ.nx = some h.nx

def argsX (e : Tr T) : List Operand → Option (List T)
  | [] => some []
  | x :: r => match evX e x, argsX e r with
    | some t, some ts => some (t :: ts)
    | _, _ => none
theorem CovE.args {a : Env} {e : Tr T} (h : CovE a e) : ∀ {l : List Operand} {ts : List T}, argsX e l = some ts → argsT a l = some ts
  | [], ts, hl => hl
  | x :: r, ts, hl => by
    simp only [argsX] at hl
    split at hl
    · rename_i t us h1 h2
      injection hl with hl; subst hl
      simp only [argsT, h.ev h1, h.args h2]
    · cases hl
def partsX (e : Tr T) : List (Nat × Operand) → Option (List (Nat × T))
  | [] => some []
  | (i, x) :: r => match evX e x, partsX e r with
    | some t, some ts => some ((i, t) :: ts)
    | _, _ => none
theorem CovE.parts {a : Env} {e : Tr T} (h : CovE a e) : ∀ {l : List (Nat × Operand)} {ts : List (Nat × T)}, partsX e l = some ts → partsT a l = some ts
  | [], ts, hl => hl
  | (i, x) :: r, ts, hl => by
    simp only [partsX] at hl
    split at hl
    · rename_i t us h1 h2
      injection hl with hl; subst hl
      simp only [partsT, h.ev h1, h.parts h2]
    · cases hl
def guardX (ops : List Oper) (e : Tr T) (o : Oper) : Option Bool :=
  match o.guard with
  | none => some true
  | some (j, want) => match (ops[j]?).bind (·.dst) with
    | some d => match e.get d with
      | some (.bool b) => some (b == want)
      | some (.tup _) => some false
      | _ => none
    | none => none
theorem CovE.guard {a : Env} {e : Tr T} (h : CovE a e) {ops : List Oper} {o : Oper} {b : Bool} (hg : guardX ops e o = some b) : Bb ⟨ops⟩ a o = some b := by
  unfold guardX at hg
  unfold Bb
  split at hg
  · rename_i hq; simp only [hq]; exact hg
  · rename_i j want hq
    simp only [hq]
    split at hg
    · rename_i d hd
      have hd' : ((⟨ops⟩ : Array Oper)[j]?).bind (·.dst) = some d := by simpa using hd
      simp only [hd']
      split at hg
      · rename_i b' hb; rw [h d _ hb]; exact hg
      · rename_i ts hb; rw [h d _ hb]; exact hg
      · cases hg
    · cases hg
end Go.Ts
set_option linter.unusedVariables false
set_option linter.unusedSimpArgs false
namespace Go.Ts
section
variable {P : Program} {G : Nat → Option TI} {w w1 : World} {μ : Gh} {σ : St} {N : Nat} {a : Env} {Q : Exit → Env → St → Prop}

theorem born_empty : Born #[] 0 := ⟨fun e h => by simp at h, by simp⟩
theorem born_push {en : Array MapEntry} {cl : Nat} (h : Born en cl) (k v : Value) : Born (en.push { key := k, val := v, born := cl }) (cl + 1) := by
  refine ⟨fun e he => ?_, ?_⟩
  · simp only [Array.toList_push, List.mem_append, List.mem_singleton] at he
    rcases he with he | rfl
    · have := h.1 e he; omega
    · simp
  · simp only [Array.toList_push, List.map_append, List.map_cons, List.map_nil]
    refine List.nodup_append.2 ⟨h.2, by simp, fun x hx y hy => ?_⟩
    obtain ⟨e, he, rfl⟩ := List.mem_map.1 hx
    simp at hy; subst hy
    have := h.1 e he; omega
theorem born_same {en en' : Array MapEntry} {cl : Nat} (h : Born en cl) (hm : en'.toList.map MapEntry.born = en.toList.map MapEntry.born) : Born en' cl := by
  refine ⟨fun e he => ?_, hm ▸ h.2⟩
  have : e.born ∈ en.toList.map MapEntry.born := hm ▸ List.mem_map.2 ⟨e, he, rfl⟩
  obtain ⟨e2, h2, h3⟩ := List.mem_map.1 this
  rw [← h3]; exact h.1 e2 h2
theorem born_sub {en en' : Array MapEntry} {cl : Nat} (h : Born en cl) (hm : en'.toList.Sublist en.toList) : Born en' cl :=
  ⟨fun e he => h.1 e (hm.subset he), List.Nodup.sublist (hm.map _) h.2⟩
theorem new_map_step (hi : Inv w μ σ) {i : Nat} (hf : μ.loc i = none) (hft : μ.tok i = none) (hfn : ∀ n, σ.nx = some n → i = n) (hfj : ∀ j, i ≤ j → μ.loc j = none ∧ μ.tok j = none) :
    Ev w μ σ (w.alloc (.map #[] 0)) (μ.addL i (w.heap.size, 0)) (σ.new i (.map [])) ∧ Inv (w.alloc (.map #[] 0)) (μ.addL i (w.heap.size, 0)) (σ.new i (.map [])) := by
  have hsz := size_alloc w (.map #[] 0)
  have hmem : ∀ j o, (j, o) ∈ (σ.new i (.map [])).L → (j = i ∧ o = .map []) ∨ ((j, o) ∈ σ.L ∧ j ≠ i) := by
    intro j o h
    rcases List.mem_cons.1 h with h | h
    · injection h with h1 h2; exact .inl ⟨h1, h2⟩
    · exact .inr ⟨h, fun e => hi.idlt h (e ▸ hf)⟩
  have ev : Ev w μ σ (w.alloc (.map #[] 0)) (μ.addL i (w.heap.size, 0)) (σ.new i (.map [])) := by
    refine ev_new hi (addL_mono hf) (fun _ _ h => h) rfl (fun j o b p h1 h2 h3 => ?_) (fun k b f t h1 h2 h3 h4 => ⟨h1, h2⟩)
    rcases hmem j o h1 with ⟨rfl, _⟩ | ⟨h, hne⟩
    · rw [A6] at h2; injection h2 with h2; injection h2 with h2; omega
    · rw [addL_ne _ hne] at h2; exact ⟨o, j, p, h, h2⟩
  refine ⟨ev, ⟨fun j us h => ?_, fun j es h => ?_, fun n m j k x y b p q h1 h2 h3 h4 => ?_, fun k hk => ?_, fun n m k l b f t g u h1 h2 h3 h4 => hi.rinj n m k l b f t g u h1 h2 h3 h4, ?_, fun b o h => ?_, fun j o b p h1 h2 q => ?_⟩⟩
  · rcases hmem j _ h with ⟨rfl, h1⟩ | ⟨h1, hne⟩
    · cases h1
    · obtain ⟨b, p, c', e', h2, h3, h4, h5⟩ := hi.obj j us h1
      exact ⟨b, p, c', e', by rw [addL_ne _ hne]; exact h2, by rw [A9 w _ (Array.getElem?_eq_some_iff.1 h3).1]; exact h3, h4, fun n t v h6 h7 => (h5 n t v h6 h7).ev ev⟩
  · rcases hmem j _ h with ⟨rfl, h1⟩ | ⟨h1, hne⟩
    · injection h1 with h1; subst h1
      exact ⟨w.heap.size, #[], 0, A6 _ _, Bl w _, ⟨rfl, born_empty⟩, fun n k u e h1 => by simp at h1⟩
    · obtain ⟨b, en, cl, h2, h3, h4, h5⟩ := hi.map j es h1
      exact ⟨b, en, cl, by rw [addL_ne _ hne]; exact h2, by rw [A9 w _ (Array.getElem?_eq_some_iff.1 h3).1]; exact h3, h4, fun n k u e' h6 h7 => let ⟨h8, h9⟩ := h5 n k u e' h6 h7; ⟨h8.ev ev, h9.ev ev⟩⟩
  · have hold : ∀ (n j : Nat) (x : Ob) (b p : Nat), σ.L[n]? = some (j, x) → (μ.addL i (w.heap.size, 0)).loc j = some (b, p) → μ.loc j = some (b, p) ∧ b < w.heap.size := by
      intro n j x b p h1 h2
      have hm := List.mem_of_getElem? h1
      have hne : j ≠ i := by rintro rfl; exact hi.idlt hm hf
      rw [addL_ne _ hne] at h2
      exact ⟨h2, hi.lts hm h2⟩
    have hnew : ∀ (b p : Nat), (μ.addL i (w.heap.size, 0)).loc i = some (b, p) → b = w.heap.size := by
      intro b p h; rw [A6] at h; injection h with h; injection h with h; exact h.symm
    cases n with
    | zero =>
      have e1 : (i, Ob.map []) = (j, x) := by simpa [St.new] using h1
      injection e1 with e1 e2; subst e1
      cases m with
      | zero => rfl
      | succ m =>
        have := (hold m k y b q (by simpa [St.new] using h2) h4).2
        have := hnew b p h3
        omega
    | succ n =>
      cases m with
      | zero =>
        have e1 : (i, Ob.map []) = (k, y) := by simpa [St.new] using h2
        injection e1 with e1 e2; subst e1
        have := (hold n j x b p (by simpa [St.new] using h1) h3).2
        have := hnew b q h4
        omega
      | succ m =>
        have h1' : σ.L[n]? = some (j, x) := by simpa [St.new] using h1
        have h2' : σ.L[m]? = some (k, y) := by simpa [St.new] using h2
        rw [hi.inj n m j k x y b p q h1' h2' (hold n j x b p h1' h3).1 (hold m k y b q h2' h4).1]
  · obtain ⟨b, f, t, h1, h2, h3⟩ := hi.room k hk
    refine ⟨b, f, t, h1, h2, fun hlt => ?_⟩
    obtain ⟨⟨c', e', h4, h5⟩, h6, h7⟩ := h3 hlt
    have hb := (Array.getElem?_eq_some_iff.1 h4).1
    refine ⟨⟨c', e', by rw [A9 w _ hb]; exact h4, h5⟩, fun j o p h8 h9 => ?_, h7⟩
    rcases hmem j o h8 with ⟨rfl, _⟩ | ⟨h, hne⟩
    · rw [A6] at h9; injection h9 with h9; injection h9 with h9; omega
    · rw [addL_ne _ hne] at h9; exact h6 j o p h h9
  · refine ⟨i + 1, fun j hj => ⟨by rw [addL_ne _ (by omega)]; exact (hfj j (by omega)).1, (hfj j (by omega)).2⟩, fun m hm => ?_⟩
    simp only [St.new] at hm
    cases hx : σ.nx with
    | none => rw [hx] at hm; cases hm
    | some n => rw [hx] at hm; simp at hm; omega
  · have := hi.offlt b o h; omega
  · rcases hmem j o h1 with ⟨rfl, _⟩ | ⟨h, hne⟩
    · rw [A6] at h2; injection h2 with h2; injection h2 with h2 h3; subst h2
      intro h; exact absurd (hi.offlt _ _ h) (by omega)
    · rw [addL_ne _ hne] at h2; exact hi.offobj j o b p h h2 q

def setMap (w : World) (b : Nat) (en : Array MapEntry) (cl : Nat) : World := { w with heap := w.heap.setIfInBounds b (.map en cl) }
theorem setMap_same {b : Nat} {en en' : Array MapEntry} {cl cl' : Nat} (h : w.heap[b]? = some (.map en cl)) : (setMap w b en' cl').heap[b]? = some (.map en' cl') := by
  have := (Array.getElem?_eq_some_iff.1 h).1
  simp [setMap, this]
theorem setMap_ne {b x : Nat} {en' : Array MapEntry} {cl' : Nat} (h : x ≠ b) : (setMap w b en' cl').heap[x]? = w.heap[x]? := by
  simp [setMap, Array.getElem?_setIfInBounds, Ne.symm h]
theorem setMap_size {b : Nat} {en' : Array MapEntry} {cl' : Nat} : (setMap w b en' cl').heap.size = w.heap.size := by simp [setMap]

theorem map_step (hi : Inv w μ σ) {n i b : Nat} {es es' : List (T × T)} (hn : σ.L[n]? = some (i, .map es)) (hl : μ.loc i = some (b, 0)) {en en' : Array MapEntry} {cl cl' : Nat} (hc : w.heap[b]? = some (.map en cl)) (hsz : en'.size = es'.length ∧ Born en' cl')
    (hen : ∀ (j : Nat) (k u : T) (e : MapEntry), es'[j]? = some (k, u) → en'[j]? = some e → Rel w μ σ e.key k ∧ Rel w μ σ e.val u) :
    Ev w μ σ (setMap w b en' cl') μ (σ.set n i (.map es')) ∧ Inv (setMap w b en' cl') μ (σ.set n i (.map es')) := by
  have hb1 : (setMap w b en' cl').heap[b]? = some (.map en' cl') := setMap_same hc
  have hin := List.mem_of_getElem? hn
  have ev : Ev w μ σ (setMap w b en' cl') μ (σ.set n i (.map es')) := by
    refine ⟨⟨rfl, rfl, rfl, by rw [setMap_size]; exact Nat.le_refl _, fun k hk => by omega⟩, fun _ _ h => h, fun _ _ h => h, rfl, fun x m ⟨c2, e2, f2, h1, h2⟩ => ?_, fun x hx hlv => ?_, fun x q hx => ?_⟩
    · have h : x ≠ b := by rintro rfl; rw [hc] at h1; cases h1
      exact ⟨c2, e2, f2, by rw [setMap_ne h]; exact h1, h2⟩
    · have hne : x ≠ b := by rintro rfl; exact hlv (.inl ⟨i, _, 0, hin, hl⟩)
      refine ⟨?_, setMap_ne hne⟩
      rintro (⟨j, y, q, h1, h2⟩ | h)
      · obtain ⟨y', h3⟩ := set_mem' hn h1
        exact hlv (.inl ⟨j, y', q, h3, h2⟩)
      · exact hlv (.inr h)
    · have hne : x ≠ b := by rintro rfl; exact hx.obj i _ 0 hin hl
      refine ⟨⟨by have := hx.lt; rw [setMap_size]; exact this, hx.off, fun j y r h1 h2 => ?_, hx.room⟩, cell_of_heap (setMap_ne hne) q⟩
      obtain ⟨y', h3⟩ := set_mem' hn h1
      exact hx.obj j y' r h3 h2
  have hother : ∀ (m j : Nat) (x : Ob) (b' q : Nat), m ≠ n → σ.L[m]? = some (j, x) → μ.loc j = some (b', q) → b' ≠ b := by
    rintro m j x b' q hne h1 h2 rfl
    exact hne (hi.inj m n j i x _ b' q 0 h1 hn h2 hl)
  refine ⟨ev, ⟨fun j us h => ?_, fun j es2 h => ?_, fun n1 m j k x y b p q h1 h2 h3 h4 => ?_, fun k hk => ?_, hi.rinj, hi.fin, fun b o h => ?_, fun j x b p h1 h2 => ?_⟩⟩
  · rcases set_mem hn h with ⟨rfl, h1⟩ | ⟨m, hne, h1⟩
    · cases h1
    · obtain ⟨b', p', c2, e2, h2, h3, h4, h5⟩ := hi.obj j us (List.mem_of_getElem? h1)
      have hne2 := hother m j _ b' p' hne h1 h2
      exact ⟨b', p', c2, e2, h2, by rw [setMap_ne hne2]; exact h3, h4, fun m t v h6 h7 => (h5 m t v h6 h7).ev ev⟩
  · rcases set_mem hn h with ⟨rfl, h1⟩ | ⟨m, hne, h1⟩
    · injection h1 with h1; subst h1
      exact ⟨b, en', cl', hl, hb1, hsz, fun m k u e h1 h2 => let ⟨h3, h4⟩ := hen m k u e h1 h2; ⟨h3.ev ev, h4.ev ev⟩⟩
    · obtain ⟨b', en2, cl2, h2, h3, h4, h5⟩ := hi.map j es2 (List.mem_of_getElem? h1)
      have hne2 := hother m j _ b' 0 hne h1 h2
      exact ⟨b', en2, cl2, h2, by rw [setMap_ne hne2]; exact h3, h4, fun m k u e' h6 h7 => let ⟨h8, h9⟩ := h5 m k u e' h6 h7; ⟨h8.ev ev, h9.ev ev⟩⟩
  · have old : ∀ (m j : Nat) (x : Ob), (σ.set n i (.map es')).L[m]? = some (j, x) → ∃ x', σ.L[m]? = some (j, x') := by
      intro m j x h
      simp only [St.set, List.getElem?_set] at h
      split at h
      · rename_i e; subst e
        rw [if_pos (Bk hn)] at h
        injection h with h; injection h with h1 h2; subst h1
        exact ⟨_, hn⟩
      · exact ⟨x, h⟩
    obtain ⟨x', h1'⟩ := old n1 j x h1
    obtain ⟨y', h2'⟩ := old m k y h2
    exact hi.inj n1 m j k x' y' b p q h1' h2' h3 h4
  · obtain ⟨b', f, t, h1, h2, h3⟩ := hi.room k hk
    refine ⟨b', f, t, h1, h2, fun hlt => ?_⟩
    obtain ⟨⟨c2, e2, h4, h5⟩, h6, h7⟩ := h3 hlt
    have hne : b' ≠ b := by rintro rfl; exact h6 i _ 0 hin hl
    refine ⟨⟨c2, e2, by rw [setMap_ne hne]; exact h4, h5⟩, fun j x q h8 h9 => ?_, h7⟩
    obtain ⟨x', h10⟩ := set_mem' hn h8
    exact h6 j x' q h10 h9
  · have := hi.offlt b o h; rw [setMap_size]; exact this
  · obtain ⟨x', h3⟩ := set_mem' hn h1
    exact hi.offobj j x' b p h3 h2

def findX (k : IntKind) (n : Int) : List (T × T) → Nat → Option (Option (Nat × T))
  | [], _ => some none
  | (.int k' m, u) :: es, i => cond (decide (k = k')) (cond (decide (n = m)) (some (some (i, u))) (findX k n es (i + 1))) none
  | _ :: _, _ => none
theorem findX_run {k k0 : IntKind} {n : Int} : ∀ (es : List (T × T)) (en : List MapEntry) (i : Nat) (r : Option (Nat × T)), findX k n es i = some r → en.length = es.length →
    (∀ (j : Nat) (x u : T) (e : MapEntry), es[j]? = some (x, u) → en[j]? = some e → Rel w μ σ e.key x ∧ Rel w μ σ e.val u) →
    match r with
    | none => Instr.findNow (.int k0) (.int k n) en i = some none
    | some (p, u) => i ≤ p ∧ ∃ e v, en[p - i]? = some e ∧ e.key = .int k n ∧ e.val = v ∧ Rel w μ σ v u ∧ es[p - i]? = some (.int k n, u) ∧ Instr.findNow (.int k0) (.int k n) en i = some (some (p, v))
  | [], en, i, r, h, hl, _ => by
    simp [findX] at h; subst h
    obtain rfl : en = [] := List.eq_nil_of_length_eq_zero (by simpa using hl)
    rfl
  | (x, u) :: es, en, i, r, h, hl, hr => by
    cases en with
    | nil => simp at hl
    | cons e en =>
      obtain ⟨r1, r2⟩ := hr 0 x u e rfl rfl
      cases x with
      | int k' m =>
        simp only [findX] at h
        by_cases hk : k = k'
        · subst hk
          simp only [decide_true, cond_true] at h
          generalize hek : e.key = ek at r1
          cases r1
          by_cases hn : n = m
          · subst hn
            simp only [decide_true, cond_true] at h
            injection h with h; subst h
            refine ⟨Nat.le_refl _, e, e.val, by simp, hek, rfl, r2, by simp, ?_⟩
            simp [Instr.findNow, hek, Instr.sameNow]
          · simp only [decide_eq_false hn, cond_false] at h
            have ih := findX_run (k0 := k0) es en (i + 1) r h (by simpa using hl) (fun j x u e h1 h2 => hr (j + 1) x u e (by simpa using h1) (by simpa using h2))
            have hf : Instr.findNow (.int k0) (.int k n) (e :: en) i = Instr.findNow (.int k0) (.int k n) en (i + 1) := by
              have hb : (n == m) = false := by simpa using hn
              simp [Instr.findNow, hek, Instr.sameNow, hb]
            cases r with
            | none => exact hf.trans ih
            | some q =>
              obtain ⟨p, v0⟩ := q
              obtain ⟨h1, e', v, h2, h3, h4, h5, h6, h7⟩ := ih
              refine ⟨by omega, e', v, by rw [show p - i = (p - (i + 1)) + 1 by omega]; simpa using h2, h3, h4, h5, by rw [show p - i = (p - (i + 1)) + 1 by omega]; simpa using h6, hf.trans h7⟩
        · simp [decide_eq_false hk] at h
      | _ => simp [findX] at h

theorem checkKey_int {b : Bool} {m : Nat} {t : TypeId} {ti : TI} {k k0 : IntKind} {n : Int} (hG : Fits P G) (ht : G t = some ti) (hd : ti.d = .int k0) : (Instr.checkKey b (m + 1) t (.int k n)).run P w = .ok () w := by
  obtain ⟨d, u, f⟩ := Aq (P := P) (w := w) hG ht
  rw [hd] at f; obtain rfl := td_int f
  simp [Instr.checkKey, u]

theorem aop_makeMap (hG : Fits P G) {o : Oper} {t : TypeId} {K : Env → St → Prop} (ho : o.op = .makeMap t none) (hd : Ai N o.dst = true)
    (k : ∀ i, (∀ n, σ.nx = some n → i = n) → K (put a o.dst (.map (some i))) (σ.new i (.map []))) : AOp P N o a σ K := by
  intro av w μ hi hr next Qc hn
  obtain ⟨i, f1, f2, f3, f4⟩ := hi.pick
  obtain ⟨ev, hi'⟩ := new_map_step hi f1 f2 f3 f4
  have hrun : (execOp av.eval o).run P w = .ok (.value (.map (some w.heap.size))) (w.alloc (.map #[] 0)) := by
    simp [execOp, ho, Instr.makeMap, newObj]
    rfl
  unfold Oper.wp
  rw [hrun]
  exact hn _ _ _ _ _ ev hi' ((hr.ev ev).put hd (.map _ _ 0 (A6 _ _))) (k i f3)

def foundX (z : T) : Option (Nat × T) → T
  | some (_, u) => u
  | none => z
theorem aop_lookup (hG : Fits P G) {o : Oper} {t kt et : TypeId} {x y : Operand} {ok : Bool} {ti tk te : TI} {k k0 : IntKind} {n : Int} {i : Nat} {es : List (T × T)} {r : Option (Nat × T)} {K : Env → St → Prop}
    (ho : o.op = .lookup t x y ok) (ht : G t = some ti) (htd : ti.d = .map kt et) (hk : G kt = some tk) (hkd : tk.d = .int k0) (he : G et = some te) (hx : Ad a x = some (.map (some i))) (hy : Ad a y = some (.int k n)) (hob : (i, .map es) ∈ σ.L)
    (hf : findX k n es 0 = some r) (hd : Ai N o.dst = true)
    (kk : K (put a o.dst (cond ok (.tup [foundX te.tree r, .bool r.isSome]) (foundX te.tree r))) σ) : AOp P N o a σ K := by
  intro av w μ hi hr next Qc hn
  obtain ⟨b, en, cl, hl, hc, ⟨hsz, hbn⟩, hrel⟩ := hi.map i es hob
  obtain ⟨d1, u1, f1⟩ := Aq (P := P) (w := w) hG ht
  rw [htd] at f1; obtain rfl := td_map f1
  obtain ⟨d2, u2, f2⟩ := Aq (P := P) (w := w) hG hk
  rw [hkd] at f2; obtain rfl := td_int f2
  obtain ⟨z, uz, rz, hz1, hz2⟩ := g_zero (P := P) (w := w) (μ := μ) (σ := σ) hG he
  have rx := Al hr hx
  have ry := Al hr hy
  generalize hvx : av.eval x = vx at rx
  generalize hvy : av.eval y = vy at ry
  cases ry
  cases rx with
  | map i b' p hl' =>
  rw [hl] at hl'; injection hl' with hl'; injection hl' with e1 e2; subst e1
  have hget : (getObj b).run P w = .ok (.map en cl) w := by simp [getObj, Sem.run, hc]
  have hck : ∀ bb, (Instr.checkKey bb 10000 kt (.int k n)).run P w = .ok () w := fun bb => checkKey_int hG hk hkd
  have hfr := findX_run (w := w) (μ := μ) (σ := σ) (k0 := k0) es en.toList 0 r hf (by simpa using hsz) (fun j x u e h1 h2 => hrel j x u e h1 (by simpa using h2))
  have tupR : ∀ (v : Value) (u : T) (bb : Bool), Rel w μ σ v u → Rel w μ σ (.tuple #[v, .bool bb]) (.tup [u, .bool bb]) := by
    intro v u bb h
    refine .tup _ _ rfl fun j c v' h1 h2 => ?_
    match j with
    | 0 => simp at h1 h2; subst h1; subst h2; exact h
    | 1 => simp at h1 h2; subst h1; subst h2; exact .bool _
    | j + 2 => simp at h1
  obtain ⟨v, hv, rv⟩ : ∃ v, (Instr.lookup t (.map (some b)) (.int k n) ok).run P w = .ok v w ∧ Rel w μ σ v (cond ok (.tup [foundX te.tree r, .bool r.isSome]) (foundX te.tree r)) := by
    cases r with
    | none =>
      have hfk : (Instr.findKey kt (.int k n) en.toList).run P w = .ok none w := by simp [Instr.findKey, u2, hfr]
      cases ok
      · exact ⟨z, by unfold Instr.lookup; simp [u1, hget, hck, hfk, uz], rz⟩
      · exact ⟨_, by unfold Instr.lookup; simp [u1, hget, hck, hfk, uz], tupR _ _ _ rz⟩
    | some q =>
      obtain ⟨p, u⟩ := q
      obtain ⟨_, e', v, _, _, _, h5, _, h7⟩ := hfr
      have hfk : (Instr.findKey kt (.int k n) en.toList).run P w = .ok (some (p, v)) w := by simp [Instr.findKey, u2, h7]
      cases ok
      · exact ⟨v, by unfold Instr.lookup; simp [u1, hget, hck, hfk], h5⟩
      · exact ⟨_, by unfold Instr.lookup; simp [u1, hget, hck, hfk], tupR _ _ _ h5⟩
  have hrun : (execOp av.eval o).run P w = .ok (.value v) w := by
    simp [execOp, ho, hvx, hvy, hv]
  unfold Oper.wp
  rw [hrun]
  exact hn _ _ _ _ _ (.refl _ _ _) hi (hr.put hd rv) kk

def mapSet (k : IntKind) (n : Int) (u : T) (es : List (T × T)) : Option (Nat × T) → List (T × T)
  | some (p, _) => es.set p (.int k n, u)
  | none => es ++ [(.int k n, u)]

theorem aop_mapUpdate (hG : Fits P G) {o : Oper} {t kt et : TypeId} {m x y : Operand} {ti tk : TI} {k k0 : IntKind} {n : Int} {q i : Nat} {u : T} {es : List (T × T)} {r : Option (Nat × T)} {K : Env → St → Prop}
    (ho : o.op = .mapUpdate t m x y) (ht : G t = some ti) (htd : ti.d = .map kt et) (hk : G kt = some tk) (hkd : tk.d = .int k0) (hm : Ad a m = some (.map (some i))) (hx : Ad a x = some (.int k n)) (hy : Ad a y = some u)
    (hob : σ.L[q]? = some (i, .map es)) (hf : findX k n es 0 = some r) (hd : Ai N o.dst = true) (kk : K (put a o.dst (.tup [])) (σ.set q i (.map (mapSet k n u es r)))) : AOp P N o a σ K := by
  intro av w μ hi hr next Qc hn
  obtain ⟨b, en, cl, hl, hc, ⟨hsz, hbn⟩, hrel⟩ := hi.map i es (List.mem_of_getElem? hob)
  obtain ⟨d1, u1, f1⟩ := Aq (P := P) (w := w) hG ht
  rw [htd] at f1; obtain rfl := td_map f1
  obtain ⟨d2, u2, f2⟩ := Aq (P := P) (w := w) hG hk
  rw [hkd] at f2; obtain rfl := td_int f2
  have rm := Al hr hm
  have rx := Al hr hx
  have ry := Al hr hy
  generalize hvm : av.eval m = vm at rm
  generalize hvx : av.eval x = vx at rx
  generalize hvy : av.eval y = vy at ry
  cases rx
  cases rm with
  | map i b' p hl' =>
  rw [hl] at hl'; injection hl' with hl'; injection hl' with e1 e2; subst e1
  have hget : (getObj b).run P w = .ok (.map en cl) w := by simp [getObj, Sem.run, hc]
  have hset : ∀ en' cl', (setObj b (.map en' cl')).run P w = .ok () (setMap w b en' cl') := fun en' cl' => by simp [setObj, Sem.run, hc, setMap]
  have hck : (Instr.checkKey false 10000 kt (.int k n)).run P w = .ok () w := checkKey_int hG hk hkd
  have hfr := findX_run (w := w) (μ := μ) (σ := σ) (k0 := k0) es en.toList 0 r hf (by simpa using hsz) (fun j x u e h1 h2 => hrel j x u e h1 (by simpa using h2))
  obtain ⟨en', cl', hrun0, hsz', hen'⟩ : ∃ en' cl', (Instr.mapUpdate t (.map (some b)) (.int k n) vy).run P w = .ok () (setMap w b en' cl') ∧ (en'.size = (mapSet k n u es r).length ∧ Born en' cl') ∧
      ∀ (j : Nat) (x u' : T) (e : MapEntry), (mapSet k n u es r)[j]? = some (x, u') → en'[j]? = some e → Rel w μ σ e.key x ∧ Rel w μ σ e.val u' := by
    cases r with
    | none =>
      refine ⟨en.push { key := .int k n, val := vy, born := cl }, cl + 1, ?_, ⟨by simp [mapSet, hsz], born_push hbn _ _⟩, fun j x u' e h1 h2 => ?_⟩
      · have hfk : (Instr.findKey kt (.int k n) en.toList).run P w = .ok none w := by simp [Instr.findKey, u2, hfr]
        unfold Instr.mapUpdate
        simp [u1, hget, hck, hfk, hset]
      · simp only [mapSet] at h1
        rcases Nat.lt_trichotomy j es.length with h | h | h
        · rw [List.getElem?_append_left h] at h1
          rw [Array.getElem?_push_lt (by omega)] at h2
          exact hrel j x u' e h1 (by rw [← h2]; simp [hsz, h])
        · subst h
          rw [List.getElem?_append_right (Nat.le_refl _)] at h1
          simp at h1
          obtain ⟨rfl, rfl⟩ := h1
          rw [← hsz, Array.getElem?_push_size] at h2
          injection h2 with h2; subst h2
          exact ⟨.int _ _, ry⟩
        · rw [List.getElem?_append_right (by omega)] at h1
          rw [List.getElem?_eq_none (by simp; omega)] at h1; cases h1
    | some pu =>
      obtain ⟨p, u0⟩ := pu
      obtain ⟨_, e', v, h2, h3, h4, h5, h6, h7⟩ := hfr
      simp only [Nat.sub_zero] at h2 h6
      have hp : p < es.length := Bk h6
      refine ⟨en.modify p fun e => { e with key := .int k n, val := vy }, cl, ?_, ⟨by simp [mapSet, hsz], born_same hbn ?_⟩, fun j x u' e h8 h9 => ?_⟩
      · have hfk : (Instr.findKey kt (.int k n) en.toList).run P w = .ok (some (p, v)) w := by simp [Instr.findKey, u2, h7]
        have hk2 : ((en[p]?).map (·.key)).getD (.int k n) = .int k n := by
          have : en[p]? = some e' := by simpa using h2
          rw [this]; exact h3
        have hst : (Instr.keyThatStays (((en[p]?).map (·.key)).getD (.int k n)) (.int k n)).run P w = .ok (.int k n) w := by
          rw [hk2]
          have : Instr.sameBits 10000 (.int k n) (.int k n) = true := by simp [Instr.sameBits]
          simp [Instr.keyThatStays, this]
        unfold Instr.mapUpdate
        simp only [Sem.run_bind, u1, Result.andThen_ok, hget, hck, hfk, hst, hset]
      · refine List.ext_getElem? fun j => ?_
        simp only [List.getElem?_map, Array.getElem?_toList, Array.getElem?_modify]
        split
        · cases en[j]? <;> rfl
        · rfl
      · simp only [mapSet, List.getElem?_set] at h8
        rw [Array.getElem?_modify] at h9
        by_cases e0 : p = j
        · subst e0
          rw [if_pos rfl, if_pos hp] at h8
          injection h8 with h8; injection h8 with h8 h10; subst h8; subst h10
          rw [if_pos rfl] at h9
          cases hq : en[p]? with
          | none => rw [hq] at h9; cases h9
          | some e1 => rw [hq] at h9; simp at h9; subst h9; exact ⟨.int _ _, ry⟩
        · rw [if_neg e0] at h8 h9
          exact hrel j x u' e h8 h9
  obtain ⟨ev, hi'⟩ := map_step (cl' := cl') hi hob hl hc hsz' hen'
  have hrun : (execOp av.eval o).run P w = .ok .skip (setMap w b en' cl') := by
    simp [execOp, ho, hvm, hvx, hvy, hrun0]
  unfold Oper.wp
  rw [hrun]
  exact hn _ _ _ _ _ ev hi' ((hr.ev ev).put hd (.tup [] #[] rfl fun j c v h1 h2 => by simp at h1)) kk

def mapDel (es : List (T × T)) : Option (Nat × T) → List (T × T)
  | some (p, _) => es.eraseIdx p
  | none => es
theorem aop_delete (hG : Fits P G) {o : Oper} {t t2 kt et : TypeId} {m x : Operand} {ti tk : TI} {k k0 : IntKind} {n : Int} {q i : Nat} {es : List (T × T)} {r : Option (Nat × T)} {K : Env → St → Prop}
    (ho : o.op = .call { callee := .builtin .delete, args := #[m, x], argTypes := #[t, t2] }) (ht : G t = some ti) (htd : ti.d = .map kt et) (hk : G kt = some tk) (hkd : tk.d = .int k0) (hm : Ad a m = some (.map (some i))) (hx : Ad a x = some (.int k n))
    (hob : σ.L[q]? = some (i, .map es)) (hf : findX k n es 0 = some r) (hd : Ai N o.dst = true) (kk : K (put a o.dst (.tup [])) (σ.set q i (.map (mapDel es r)))) : AOp P N o a σ K := by
  intro av w μ hi hr next Qc hn
  obtain ⟨b, en, cl, hl, hc, ⟨hsz, hbn⟩, hrel⟩ := hi.map i es (List.mem_of_getElem? hob)
  obtain ⟨d1, u1, f1⟩ := Aq (P := P) (w := w) hG ht
  rw [htd] at f1; obtain rfl := td_map f1
  obtain ⟨d2, u2, f2⟩ := Aq (P := P) (w := w) hG hk
  rw [hkd] at f2; obtain rfl := td_int f2
  have rm := Al hr hm
  have rx := Al hr hx
  generalize hvm : av.eval m = vm at rm
  generalize hvx : av.eval x = vx at rx
  cases rx
  cases rm with
  | map i b' p hl' =>
  rw [hl] at hl'; injection hl' with hl'; injection hl' with e1 e2; subst e1
  have hget : (getObj b).run P w = .ok (.map en cl) w := by simp [getObj, Sem.run, hc]
  have hset : ∀ en' cl', (setObj b (.map en' cl')).run P w = .ok () (setMap w b en' cl') := fun en' cl' => by simp [setObj, Sem.run, hc, setMap]
  have hck : ∀ bb, (Instr.checkKey bb 10000 kt (.int k n)).run P w = .ok () w := fun bb => checkKey_int hG hk hkd
  have hfr := findX_run (w := w) (μ := μ) (σ := σ) (k0 := k0) es en.toList 0 r hf (by simpa using hsz) (fun j x u e h1 h2 => hrel j x u e h1 (by simpa using h2))
  obtain ⟨en', cl', hrun0, hsz', hen'⟩ : ∃ en' cl', (Builtin.delete_ #[t, t2] o.type #[.map (some b), .int k n]).run P w = .ok (.tuple #[]) (setMap w b en' cl') ∧ (en'.size = (mapDel es r).length ∧ Born en' cl') ∧
      ∀ (j : Nat) (x u' : T) (e : MapEntry), (mapDel es r)[j]? = some (x, u') → en'[j]? = some e → Rel w μ σ e.key x ∧ Rel w μ σ e.val u' := by
    cases r with
    | none =>
      refine ⟨en, cl, ?_, ⟨hsz, hbn⟩, hrel⟩
      have hfk : (Instr.findKey kt (.int k n) en.toList).run P w = .ok none w := by simp [Instr.findKey, u2, hfr]
      simp [Builtin.delete_, u1, hget, hck, hfk, hset]
    | some pu =>
      obtain ⟨p, u0⟩ := pu
      obtain ⟨_, e', v, h2, h3, h4, h5, h6, h7⟩ := hfr
      simp only [Nat.sub_zero] at h2 h6
      have hp : p < es.length := Bk h6
      have hp' : p < en.size := by omega
      have hq : ∀ j, (en.eraseIdxIfInBounds p)[j]? = if j < p then en[j]? else en[j + 1]? := by
        intro j
        rw [Array.eraseIdxIfInBounds, dif_pos hp', Array.getElem?_eraseIdx]
      refine ⟨en.eraseIdxIfInBounds p, cl, ?_, ⟨?_, born_sub hbn ?_⟩, fun j x u' e h8 h9 => ?_⟩
      · have hfk : (Instr.findKey kt (.int k n) en.toList).run P w = .ok (some (p, v)) w := by simp [Instr.findKey, u2, h7]
        simp [Builtin.delete_, u1, hget, hck, hfk, hset]
      · rw [Array.eraseIdxIfInBounds, dif_pos hp', Array.size_eraseIdx, mapDel, List.length_eraseIdx, if_pos hp, hsz]
      · rw [Array.eraseIdxIfInBounds, dif_pos hp', Array.toList_eraseIdx]; exact List.eraseIdx_sublist _ _
      · rw [hq] at h9
        simp only [mapDel, List.getElem?_eraseIdx] at h8
        by_cases hj : j < p
        · rw [if_pos hj] at h8 h9; exact hrel j x u' e h8 h9
        · rw [if_neg hj] at h8 h9; exact hrel (j + 1) x u' e h8 h9
  obtain ⟨ev, hi'⟩ := map_step (cl' := cl') hi hob hl hc hsz' hen'
  have hrun : (execOp av.eval o).run P w = .ok (.value (.tuple #[])) (setMap w b en' cl') := by
    simp [execOp, ho, resolve, invoke, builtin, hvm, hvx, hrun0]
  unfold Oper.wp
  rw [hrun]
  exact hn _ _ _ _ _ ev hi' ((hr.ev ev).put hd (.tup [] #[] rfl fun j c v h1 h2 => by simp at h1)) kk
end
end Go.Ts
set_option linter.unusedVariables false
set_option linter.unusedSimpArgs false
namespace Go.Ts
section
variable {P : Program} {G : Nat → Option TI} {w w1 : World} {μ : Gh} {σ σ1 : St} {N : Nat} {a : Env} {Q : Exit → Env → St → Prop}

theorem aop_app0L (hG : Fits P G) {o : Oper} {x y : Operand} {t1 t2 : TypeId} {e : Nat} {i1 i2 ie : TI} {ys : List T} {ty : T} {K : Env → St → Prop}
    (ho : o.op = .call { callee := .builtin .append, args := #[x, y], argTypes := #[t1, t2] }) (h1 : G t1 = some i1) (h1d : i1.d = .slice e) (he : G e = some ie) (h2 : G t2 = some i2) (h2d : ∃ e2, i2.d = .slice e2)
    (hx : Ad a x = some .nilsl) (hy : Ad a y = some ty) {objs : Nat → Option Ob} (hob : ∀ i o, objs i = some o → (i, o) ∈ σ.L) (hsrc : srcOf objs ie.size ty = some ys)
    (hsz : (Nat.blt 0 ie.size && Nat.ble ie.bytes 4096) = true) (hys : ys ≠ []) (hlen : ys.length ≤ 4294967296) (hd : Ai N o.dst = true)
    (k : ∀ i', (∀ n, σ.nx = some n → i' = n) → K (put a o.dst (.aref ie.size i' 0 ys.length none)) (σ.new i' (.cells (flat ys)))) : AOp P N o a σ K := by
  intro av w μ hi hr next Qc hn
  simp only [Bool.and_eq_true] at hsz
  have hsz0 : 0 < ie.size := by have := hsz.1; simpa [Nat.blt_eq] using this
  have hby := Nat.le_of_ble_eq_true hsz.2
  have hypos : 0 < ys.length := List.length_pos_iff.2 hys
  obtain ⟨e2, h2d⟩ := h2d
  have us := g_size (P := P) (w := w) hG he
  have rx := Al hr hx
  have ry := Al hr hy
  obtain ⟨s1, s2, vs, s3, s4, s5⟩ := srcOf_run (P := P) hi hob ry hsrc
  have hexec : (execOp av.eval o).run P w = ((Builtin.append_ #[t1, t2] o.type #[av.eval x, av.eval y]).run P w).andThen fun v w' => .ok (.value v) w' := by
    simp [execOp, ho, resolve, invoke, builtin]
  have hfl := flat_length s2
  obtain ⟨i', f1', f2', f3', f4'⟩ := hi.pick
  generalize hvx : av.eval x = vx at rx
  cases rx with
  | nilsl =>
  obtain ⟨info, ui, hib, his⟩ := g_info (P := P) (w := w) hG he
  have ui' : ∀ w, (typeInfo e).run P w = .ok info w := by
    intro w2
    obtain ⟨i0, d0, k1, k2, _⟩ := hG e ie he
    have e1 : (typeInfo e).run P w = .ok i0 w := by simp [typeInfo, k1]
    rw [ui] at e1; injection e1 with e1; subst e1
    simp [typeInfo, k1]
  obtain ⟨z, uz, rz, hz1, hz2⟩ := g_zero (P := P) (w := w) (μ := μ) (σ := σ) hG he
  have uz' : ∀ w, (zeroValue e).run P w = .ok z w := by
    intro w2
    obtain ⟨i0, d0, k1, k2, k3, k4, k5, k6, _⟩ := hG e ie he
    have e1 : ∀ w, (zeroValue e).run P w = .ok (if ie.d.agg then .agg (ie.zero.map Z.value).toArray else (ie.zero.headD .b).value) w := by
      intro w; simp only [zeroValue, typeInfo, Sem.run_bind, run_program, Result.andThen_ok, k1, k6, Sem.run_pure]
    rw [e1] at uz; injection uz with uz; rw [e1, uz]
  have u1' : ∀ w, (underlying t1).run P w = .ok (.slice e) w := by
    intro w2; obtain ⟨d, u, f⟩ := Aq (P := P) (w := w2) hG h1; rw [h1d] at f; obtain rfl := A0 f; exact u
  have u2' : ∀ w, (underlying t2).run P w = .ok (.slice e2) w := by
    intro w2; obtain ⟨d, u, f⟩ := Aq (P := P) (w := w2) hG h2; rw [h2d] at f; obtain rfl := A0 f; exact u
  obtain ⟨newCap, hnc, hrun⟩ := append_grow_run (P := P) (ty := o.type) (ie := info) (base := none) (sLen := 0) (sCap := 0) (vy := av.eval y) (old := #[]) (vs := vs) (n := ys.length) u1' u2' (fun w => by rw [his]; exact g_size hG he) ui' uz' s1 (by omega) (by omega) (by omega) (.inr trivial)
    rfl (by rw [his]; exact s3 w.drew rfl)
  simp only [Nat.zero_add, Array.empty_append] at hrun hnc
  have ev1 : Ev w μ σ w.drew μ σ := ev_same rfl rfl rfl rfl
  have hi1 : Inv w.drew μ σ := hi.ev_heap rfl ev1
  generalize hrest : Builtin.zeroCells z.cells (newCap - ys.length) = rest at hrun
  have hrs : rest.size = (newCap - ys.length) * ie.size := by rw [← hrest, zeroCells_size, hz1]
  have hcs : (vs ++ rest).size = newCap * ie.size := by
    rw [Array.size_append, s4, hfl, hrs, ← Nat.add_mul]
    congr 1; omega
  obtain ⟨ev3, i3⟩ := new_step hi1 (vs ++ rest) e f1' f2' f3' f4' (ts := flat ys) (by rw [hcs, hfl]; exact Nat.mul_le_mul_right _ hnc) (fun j t u hj hu => by
    rw [Nat.zero_add] at hu
    refine Rel.ev (w := w) ?_ ev1
    have h4 : j < (flat ys).length := Bk hj
    rw [Array.getElem?_append_left (by omega)] at hu
    exact s5 _ t u hj hu)
  have ev := ev1.trans ev3
  unfold Oper.wp
  rw [hexec, hvx, hrun]
  refine hn _ _ _ _ _ ev i3 ((hr.ev ev).put hd (Rel.aref i' w.heap.size 0 0 ys.length newCap ie.size none (A6 _ _) hnc (fun x hx => by cases hx) ⟨_, e, _, Bl w.drew _, by rw [hcs]; simp⟩)) (k i' f3')

end
end Go.Ts
set_option linter.unusedVariables false
set_option linter.unusedSimpArgs false
namespace Go.Ts

def HS.new (h : HS) (o : HO) : HS := ⟨h.L.set h.nx o, h.R, h.nx + 1⟩
theorem Tr.get_up_none {α : Type} : ∀ (f : Nat) (t : Tr α) (i : Nat) (x : Option α) (j : Nat), i + 1 < 2 ^ f → (Tr.up f t i x).get j = none → (j = i ∧ x = none) ∨ (j ≠ i ∧ t.get j = none)
  | 0, t, i, x, j, hf, h => by simp at hf
  | f + 1, t, i, x, j, hf, h => by
    have hf' : i + 1 < 2 * 2 ^ f := by rw [Nat.pow_succ, Nat.mul_comm] at hf; exact hf
    simp only [Tr.up] at h
    rw [Tr.get_parts t j]
    by_cases hi : i = 0
    · subst hi
      simp only [Nat.beq_refl, cond_true, Tr.get] at h
      by_cases hj : j = 0
      · subst hj; simp at h; exact .inl ⟨rfl, h⟩
      · rw [beqF hj] at h ⊢; exact .inr ⟨hj, h⟩
    · rw [beqF hi, cond_false] at h
      by_cases hp : i % 2 = 1
      · rw [hp, Nat.beq_refl, cond_true] at h
        simp only [Tr.get] at h
        by_cases hj : j = 0
        · subst hj; simp only [Nat.beq_refl, cond_true] at h ⊢; exact .inr ⟨fun e => hi e.symm, h⟩
        · rw [beqF hj, cond_false] at h ⊢
          by_cases hq : j % 2 = 1
          · rw [hq, Nat.beq_refl, cond_true] at h ⊢
            rcases Tr.get_up_none f _ _ _ _ (by omega) h with ⟨h1, h2⟩ | ⟨h1, h2⟩
            · exact .inl ⟨by omega, h2⟩
            · exact .inr ⟨fun e => h1 (by rw [e]), h2⟩
          · rw [beqF hq, cond_false] at h ⊢
            exact .inr ⟨fun e => hq (by rw [e]; exact hp), h⟩
      · rw [beqF hp, cond_false] at h
        simp only [Tr.get] at h
        by_cases hj : j = 0
        · subst hj; simp only [Nat.beq_refl, cond_true] at h ⊢; exact .inr ⟨fun e => hi e.symm, h⟩
        · rw [beqF hj, cond_false] at h ⊢
          by_cases hq : j % 2 = 1
          · rw [hq, Nat.beq_refl, cond_true] at h ⊢
            exact .inr ⟨fun e => hp (by rw [← e]; exact hq), h⟩
          · rw [beqF hq, cond_false] at h ⊢
            rcases Tr.get_up_none f _ _ _ _ (by omega) h with ⟨h1, h2⟩ | ⟨h1, h2⟩
            · exact .inl ⟨by omega, h2⟩
            · exact .inr ⟨fun e => h1 (by rw [e]), h2⟩
def far40 : Nat := 1000000000000
theorem get_setCells_none : ∀ (l : List T) (ov : Tr T) (p j : Nat), p + l.length ≤ far40 → (setCells ov p l).get j = none → (j < p ∨ p + l.length ≤ j) ∧ ov.get j = none
  | [], ov, p, j, hf, h => ⟨by simp; omega, h⟩
  | x :: l, ov, p, j, hf, h => by
    have hf2 : p + (l.length + 1) ≤ 1000000000000 := by simpa [far40] using hf
    obtain ⟨h1, h2⟩ := get_setCells_none l _ (p + 1) j (by show p + 1 + l.length ≤ 1000000000000; omega) h
    rcases Tr.get_up_none 40 _ _ _ _ (by
      show p + 1 < 2 ^ 40
      have : (2 : Nat) ^ 40 = 1099511627776 := by decide
      omega) h2 with ⟨h3, h4⟩ | ⟨h3, h4⟩
    · cases h4
    · exact ⟨by simp; omega, h4⟩
theorem ThOK.stored {zn : Nat} {z : List T} {ov : Tr T} {ts : List T} (h : ThOK zn z ov ts) {p : Nat} {cs : List T} (hp : p + cs.length ≤ ts.length) (hf : p + cs.length ≤ far40) : ThOK zn z (setCells ov p cs) (stored ts cs p) := by
  intro j t hj
  rw [stored_get hp]
  unfold cellX at hj
  cases hg : (setCells ov p cs).get j with
  | some u =>
    rw [hg] at hj; injection hj with hj; subst hj
    rcases get_setCells cs ov p j u hg with ⟨h1, h2⟩ | ⟨h1, h2⟩
    · rw [if_pos ⟨h1, by have := Bk h2; omega⟩]; exact h2
    · rw [if_neg (by omega)]; exact h j u (by rw [cellX, h2])
  | none =>
    rw [hg] at hj
    obtain ⟨h1, h2⟩ := get_setCells_none cs ov p j hf hg
    rw [if_neg (by omega)]
    exact h j t (by rw [cellX, h2]; exact hj)
theorem ThOK.append {zn : Nat} {z : List T} {ov : Tr T} {ts : List T} (h : ThOK zn z ov ts) {cs : List T} (hf : ts.length + cs.length ≤ far40) : ThOK zn z (setCells ov ts.length cs) (ts ++ cs) := by
  intro j t hj
  unfold cellX at hj
  have old : cellX zn z ov j = some t → (ts ++ cs)[j]? = some t := by
    intro h0
    have h1 := h j t h0
    rw [List.getElem?_append_left (Bk h1)]; exact h1
  cases hg : (setCells ov ts.length cs).get j with
  | some u =>
    rw [hg] at hj; injection hj with hj; subst hj
    rcases get_setCells cs ov _ j u hg with ⟨h1, h2⟩ | ⟨h1, h2⟩
    · rw [List.getElem?_append_right h1]; exact h2
    · exact old (by rw [cellX, h2])
  | none =>
    rw [hg] at hj
    obtain ⟨h1, h2⟩ := get_setCells_none cs ov _ j hf hg
    exact old (by rw [cellX, h2]; exact hj)

section
variable {σ : St} {h : HS}
theorem HCov.setT (c : HCov σ h) {n k0 : Nat} (hn : σ.R[n]? = some k0) : HCov (σ.setT n h.nx) ⟨h.L, (h.R.del k0).set h.nx (), h.nx + 1⟩ := by
  refine ⟨c.th, c.mp, fun k u hk => ?_, by simp [St.setT, c.nx]⟩
  rcases Tr.get_set hk with ⟨h1, _⟩ | ⟨h1, h2⟩
  · subst h1
    refine List.mem_of_getElem? (i := n) ?_
    simp only [St.setT, List.getElem?_set]
    simp [Bk hn]
  · obtain ⟨h3, h4⟩ := Tr.get_del h2
    obtain ⟨m, hm⟩ := List.getElem?_of_mem (c.room k u h4)
    have hmn : n ≠ m := by rintro rfl; rw [hn] at hm; injection hm with hm; exact h3 hm.symm
    refine List.mem_of_getElem? (i := m) ?_
    simp only [St.setT, List.getElem?_set]
    rw [if_neg hmn]; exact hm
end

def only (i : Nat) (ts : List T) (j : Nat) : Option Ob := cond (Nat.beq j i) (some (.cells ts)) none
section
variable {P : Program} {G : Nat → Option TI} {σ : St} {h : HS} {N : Nat} {a : Env} {e : Tr T}

theorem aop_quietO (hG : Fits P G) {o : Oper} {t : T} {K : Env → St → Prop} {ρ : Operand → Option T} (hρ : ∀ x t, ρ x = some t → Ad a x = some t) {objs : Nat → Option Ob} (hob : ∀ i o, objs i = some o → (i, o) ∈ σ.L)
    (h : Av G objs ρ o.op = some t) (hd : Ai N o.dst = true) (k : K (put a o.dst t) σ) : AOp P N o a σ K := by
  intro av w μ hi hr next Qc hn
  obtain ⟨v, h1, h2⟩ := evalOp_run (P := P) hG hi (ρv := av.eval) (fun x t hx => Al hr (hρ x t hx)) (objs := objs) hob h
  unfold Oper.wp
  rw [h1]
  exact hn _ _ _ _ _ (.refl _ _ _) hi (hr.put hd h2) k

theorem aop_indexS (hG : Fits P G) {o : Oper} {t : TypeId} {x y : Operand} {ti : TI} {s : List UInt8} {k : IntKind} {n : Int} {b : UInt8} {K : Env → St → Prop} (hop : o.op = .index t x y) (ht : G t = some ti) (htd : ti.d = .str) (hx : Ad a x = some (.str s)) (hy : Ad a y = some (.int k n)) (h0 : 0 ≤ n) (hb : s[n.toNat]? = some b) (hd : Ai N o.dst = true)
    (kk : K (put a o.dst (.int .u8 b.toNat)) σ) : AOp P N o a σ K := by
  intro av w μ hi hr next Qc hnx
  obtain ⟨d1, u1, f1⟩ := Aq (P := P) (w := w) hG ht
  rw [htd] at f1; obtain rfl := td_str f1
  have rx := Al hr hx
  have ry := Al hr hy
  generalize hvx : av.eval x = vx at rx
  generalize hvy : av.eval y = vy at ry
  cases ry
  cases rx with
  | str sb =>
  have hget : sb[n.toNat]? = some b := by
    have h1 : sb.data[n.toNat]? = some b := by simpa using hb
    have h2 := (Array.getElem?_eq_some_iff.1 h1)
    obtain ⟨h3, h4⟩ := h2
    have h5 : n.toNat < sb.size := h3
    rw [getElem?_pos sb n.toNat h5]
    exact congrArg some h4
  have hrun : (execOp av.eval o).run P w = .ok (.value (.int .u8 b.toNat)) w := by
    simp [execOp, hop, hvx, hvy, Instr.index, asIntOf, u1, h0, hget]
  unfold Oper.wp
  rw [hrun]
  exact hnx _ _ _ _ _ (.refl _ _ _) hi (hr.put hd (.int _ _)) kk

end
end Go.Ts
set_option maxHeartbeats 4000000
namespace Go.Ts
section
variable {P : Program} {G : Nat → Option TI} {N : Nat} {σ : St} {a : Env} {K : Env → St → Prop} {d : Tmp} {ty : TypeId} {pos : String} {af : Array Edge} {gd : Option (Nat × Bool)}
theorem u64_ofNat {n : Nat} (h : n < 18446744073709551616) : (BitVec.ofInt 64 (n : Int)).toNat = n := by
  rw [BitVec.ofInt_natCast, BitVec.toNat_ofNat]; omega
theorem r_xorU {t yt : TypeId} {x y : Operand} {n m : Nat} {ti : TI} (hG : Fits P G) (ht : G t = some ti) (hx : Ad a x = some (.int .u64 ((n : Nat) : Int))) (hy : Ad a y = some (.int .u64 ((m : Nat) : Int))) (hd : Ai N (some d) = true)
    (hb : n < 18446744073709551616 ∧ m < 18446744073709551616) (kk : K (put a (some d) (.int .u64 ((n ^^^ m : Nat) : Int))) σ) : AOp P N ⟨some d, .binOp .xor t x y yt, ty, pos, af, gd⟩ a σ K := by
  have h1 : n ^^^ m < 2 ^ 64 := Nat.xor_lt_two_pow (by omega) (by omega)
  refine op_q hG (t := .int .u64 ((n ^^^ m : Nat) : Int)) ?_ rfl hd kk
  simp only [Av, hx, hy, ht, evalBin, isShift, cond_false, decide_true, cond_true, evalInt]
  rw [show IntKind.u64.bits = 64 from rfl, BitVec.toNat_xor, u64_ofNat hb.1, u64_ofNat hb.2, u64_in (by omega) (by omega)]
theorem r_andU {t yt : TypeId} {x y : Operand} {n m : Nat} {ti : TI} (hG : Fits P G) (ht : G t = some ti) (hx : Ad a x = some (.int .u64 ((n : Nat) : Int))) (hy : Ad a y = some (.int .u64 ((m : Nat) : Int))) (hd : Ai N (some d) = true)
    (hb : n < 18446744073709551616 ∧ m < 18446744073709551616) (kk : K (put a (some d) (.int .u64 ((n &&& m : Nat) : Int))) σ) : AOp P N ⟨some d, .binOp .and t x y yt, ty, pos, af, gd⟩ a σ K := by
  have h1 : n &&& m ≤ m := Nat.and_le_right
  refine op_q hG (t := .int .u64 ((n &&& m : Nat) : Int)) ?_ rfl hd kk
  simp only [Av, hx, hy, ht, evalBin, isShift, cond_false, decide_true, cond_true, evalInt]
  rw [show IntKind.u64.bits = 64 from rfl, BitVec.toNat_and, u64_ofNat hb.1, u64_ofNat hb.2, u64_in (by omega) (by omega)]
theorem r_shlU {t yt : TypeId} {x y : Operand} {n : Nat} {k : IntKind} {m : Int} {ti : TI} (hG : Fits P G) (ht : G t = some ti) (hx : Ad a x = some (.int .u64 ((n : Nat) : Int))) (hy : Ad a y = some (.int k m)) (hd : Ai N (some d) = true)
    (hm : 0 ≤ m ∧ m ≤ 63) (kk : K (put a (some d) (.int .u64 ((n * 2 ^ m.toNat % 18446744073709551616 : Nat) : Int))) σ) : AOp P N ⟨some d, .binOp .shl t x y yt, ty, pos, af, gd⟩ a σ K := by
  refine r_shl hG ht hx hy hd hm.1 ?_
  rw [show IntKind.u64.bits = 64 from rfl, show min m.toNat 64 = m.toNat by omega]
  rw [show IntKind.u64.wrap ((n : Int) * 2 ^ m.toNat) = ((n * 2 ^ m.toNat % 18446744073709551616 : Nat) : Int) by simp [IntKind.wrap, IntKind.bits, IntKind.signed]]
  exact kk
theorem r_shrU {t yt : TypeId} {x y : Operand} {n : Nat} {k : IntKind} {m : Int} {ti : TI} (hG : Fits P G) (ht : G t = some ti) (hx : Ad a x = some (.int .u64 ((n : Nat) : Int))) (hy : Ad a y = some (.int k m)) (hd : Ai N (some d) = true)
    (hm : 0 ≤ m ∧ m ≤ 63) (kk : K (put a (some d) (.int .u64 ((n / 2 ^ m.toNat : Nat) : Int))) σ) : AOp P N ⟨some d, .binOp .shr t x y yt, ty, pos, af, gd⟩ a σ K := by
  refine r_shr hG ht hx hy hd hm.1 ?_
  rw [show IntKind.u64.bits = 64 from rfl, show min m.toNat 64 = m.toNat by omega]
  rw [show (n : Int) / 2 ^ m.toNat = ((n / 2 ^ m.toNat : Nat) : Int) by simp]
  exact kk
theorem r_subU {t yt : TypeId} {x y : Operand} {n m : Nat} {ti : TI} (hG : Fits P G) (ht : G t = some ti) (hx : Ad a x = some (.int .u64 ((n : Nat) : Int))) (hy : Ad a y = some (.int .u64 ((m : Nat) : Int))) (hd : Ai N (some d) = true)
    (hb : m ≤ n ∧ n < 18446744073709551616) (kk : K (put a (some d) (.int .u64 ((n - m : Nat) : Int))) σ) : AOp P N ⟨some d, .binOp .sub t x y yt, ty, pos, af, gd⟩ a σ K :=
  Bf hG ht hx hy rfl hd (by omega) (by rw [show ((n : Int) - (m : Int)) = ((n - m : Nat) : Int) by omega]; exact kk)
end
end Go.Ts
namespace Go.Proofs.Ythfgocinlbogeaa
open Go.Ts
set_option linter.unusedSimpArgs false
set_option linter.unusedVariables false
attribute [local irreducible] Go.Ts.AW Go.Ts.AOps Go.Ts.AL Go.Ts.AOp Go.Ts.ACalls Go.Ts.DL Go.Ts.DQ0 Go.Ts.EL
open Go.Sort
def tab8 : List UInt8 := (List.range 256).map fun x => UInt8.ofNat (bitsLen x)
theorem bitsLen_le8 {x : Nat} (h : x < 256) : bitsLen x ≤ 8 := (bitsLen_le_iff x 8).2 (by omega)
theorem tab8_get {x : Nat} (h : x < 256) : tab8[((x : Nat) : Int).toNat]? = some (UInt8.ofNat (bitsLen x)) := by
  rw [Int.toNat_natCast]
  simp [tab8, h]
theorem bits_Len64 {x : Nat} (hx : x < 256) : Ts.Pure Try.prog 113 [.int .u64 (x : Int)] (.int .i64 (bitsLen x : Int)) := by
  intro off
  refine Af (N := 25) (rs := [.tmp 2]) hG Try.func113 rfl rfl rfl rfl rfl ?_
  repeat' (first | (show AL _ _ _ _ _ _ _ _; first | refine so0 ?_) | (show AW _ _ _ _ _ _; first | (show AW _ _ (.region _ _ _) _ _ _; refine sc0 ?_; intro O1) | (refine sc0 ?_; try intro Q1)) | (show (_ → _) ∧ _; refine ⟨fun h => ?_, fun h => ?_⟩) | fail)
  refine Ac rfl (aop_indexS hG rfl rfl rfl rfl rfl (by omega) ((congrArg (fun l : List UInt8 => l[((x : Nat) : Int).toNat]?) (show _ = tab8 by kernel_rfl)).trans (tab8_get hx)) rfl ?_)
  have h8 := bitsLen_le8 hx
  have e8 : (UInt8.ofNat (bitsLen x)).toNat = bitsLen x := by simp; omega
  repeat' (first | (show AL _ _ _ _ _ _ _ _; first | refine so0 ?_) | (show AW _ _ _ _ _ _; first | (show AW _ _ (.region _ _ _) _ _ _; refine sc0 ?_; intro O1) | (refine sc0 ?_; try intro Q1)) | (show (_ → _) ∧ _; refine ⟨fun h => ?_, fun h => ?_⟩) | fail)
  refine Bj (Ae rfl Ag) (.int ?_) rfl
  rw [e8]; omega
theorem bits_Len {x : Nat} (hx : x < 256) : Ts.Pure Try.prog 91 [.int .u64 (x : Int)] (.int .i64 (bitsLen x : Int)) := by
  have h := bits_Len64 hx
  intro off
  refine Af (N := 8) (rs := [.tmp 2]) hG Try.func91 rfl rfl rfl rfl rfl ?_
  repeat' (first | (show AL _ _ _ _ _ _ _ _; first | refine so0 ?_ | refine sp Y Y Y Y Y Y (by apply h <;> exact sd) ?_) | (show AW _ _ _ _ _ _; first | (show AW _ _ (.region _ _ _) _ _ _; refine sc0 ?_; intro O1) | (refine sc0 ?_; try intro Q1)) | (show (_ → _) ∧ _; refine ⟨fun h => ?_, fun h => ?_⟩) | fail)
  exact Bj (Ae rfl Ag) (.refl _) rfl
theorem next_pow {x : Nat} (hx : x < 256) : Ts.Pure Try.prog 120 [.int .i64 (x : Int)] (.int .u64 ((1 <<< bitsLen x : Nat) : Int)) := by
  have h := bits_Len hx
  have h8 := bitsLen_le8 hx
  intro off
  refine Af (N := 7) (rs := [.tmp 2]) hG Try.func120 rfl rfl rfl rfl rfl ?_
  repeat' (first | (show AL _ _ _ _ _ _ _ _; first | refine so0 ?_ | refine sp Y Y Y Y Y Y (by apply h <;> exact sd) ?_) | (show AW _ _ _ _ _ _; first | (show AW _ _ (.region _ _ _) _ _ _; refine sc0 ?_; intro O1) | (refine sc0 ?_; try intro Q1)) | (show (_ → _) ∧ _; refine ⟨fun h => ?_, fun h => ?_⟩) | fail)
  refine Bj (Ae rfl Ag) (.int ?_) rfl
  rw [show (IntKind.u64.bits) = 64 from rfl, Int.toNat_natCast, show min (bitsLen x) 64 = bitsLen x by omega, Nat.one_shiftLeft]
  have h2 : (2 : Nat) ^ bitsLen x ≤ 2 ^ 8 := Nat.pow_le_pow_right (by omega) h8
  rw [show (1 * 2 ^ bitsLen x : Int) = ((2 ^ bitsLen x : Nat) : Int) by simp]
  generalize 2 ^ bitsLen x = z at h2 ⊢
  exact u64_in (by omega) (by omega)
theorem xor_next {r : Nat} (hr : r < 18446744073709551616) : Mut Try.prog 121 [] [.int .u64 (r : Int)] (fun u cs => u = .int .u64 ((xorNextN r : Nat) : Int) ∧ cs = [.int .u64 ((xorNextN r : Nat) : Int)]) := by
  have p : (18446744073709551616 : Nat) = 2 ^ 64 := by decide
  obtain ⟨s, hs⟩ : ∃ s, s = r ^^^ (r * 2 ^ 13 % 18446744073709551616) := ⟨_, rfl⟩
  obtain ⟨t, ht⟩ : ∃ t, t = s ^^^ (s / 2 ^ 7) := ⟨_, rfl⟩
  obtain ⟨w, hw⟩ : ∃ w, w = t ^^^ (t * 2 ^ 17 % 18446744073709551616) := ⟨_, rfl⟩
  have e : xorNextN r = w := by rw [hw, ht, hs]; rfl
  have h1 : s < 18446744073709551616 := by rw [hs, p]; exact Nat.xor_lt_two_pow (by omega) (by omega)
  have h2 : t < 18446744073709551616 := by rw [ht, p]; exact Nat.xor_lt_two_pow (by omega) (by omega)
  have h3 : s / 2 ^ Int.toNat 7 < 18446744073709551616 := Nat.lt_of_le_of_lt (Nat.div_le_self ..) h1
  rw [e]; clear e
  intro off i
  refine Af (N := 33) (rs := [.tmp 2]) hG Try.func121 rfl rfl rfl rfl rfl ?_
  repeat' (first | (show AL _ _ _ _ _ _ _ _; first | refine so3 ?_) | (show DL _ _ _ _ _ _ _; first | refine do3 ?_) | (show AW _ _ _ _ _ _; (fail_if_success show AW _ _ (.region 1 _ _) _ _ _); first | (show AW _ _ (.region _ _ _) _ _ _; refine sc0 ?_; intro O1) | (refine sc1 ?_; try intro Q1)) | (show (_ → _) ∧ _; refine ⟨fun h => ?_, fun h => ?_⟩) | fail)
  refine Bg (m := 10) [9] [2, 5] (fun σ => ∃ c : List Go.Ts.T, σ = ⟨[(i, .cells c)], [], off, none⟩) mix Y Y (by repeat (first | exact Sp.zero _ | apply Sp.succ)) ?_; intro O1 F1 Z1 Q2; repeat' (first
    | (refine' dq0_cons Y Y Y Y (fun σ hσ K kk => ?_) ?_; (try (show Go.Ts.T; rotate_left)); (obtain ⟨c, hcs⟩ := hσ; subst hcs); (first
      | (show AOp _ _ ⟨_, .move _, _, _, _, _⟩ _ _ _; refine r_move hG Y Y ?_)
      | (show AOp _ _ ⟨_, .assign _, _, _, _, _⟩ _ _ _; refine r_asg hG Y Y ?_)
      | (show AOp _ _ ⟨_, .binOp .shr _ _ _ _, _, _, _, _⟩ _ _ _; refine r_shrU hG Y Y Y Y (by omega) ?_)
      | (show AOp _ _ ⟨_, .binOp .shl _ _ _ _, _, _, _, _⟩ _ _ _; refine r_shlU hG Y Y Y Y (by omega) ?_)
      | (show AOp _ _ ⟨_, .binOp .xor _ _ _ _, _, _, _, _⟩ _ _ _; refine r_xorU hG Y Y Y Y (by omega) ?_)
      | (show AOp _ _ ⟨_, .binOp .shr _ _ _ _, _, _, _, _⟩ _ _ _; refine r_shr hG Y Y Y Y (by omega) ?_)
      | (show AOp _ _ ⟨_, .binOp .shl _ _ _ _, _, _, _, _⟩ _ _ _; refine r_shl hG Y Y Y Y (by omega) ?_)
      | (show AOp _ _ ⟨_, .binOp _ _ _ _ _, _, _, _, _⟩ _ _ _; first | refine r_bin' hG Y Y Y ?_)
      | (show AOp _ _ ⟨_, .load _ _, _, _, _, _⟩ _ _ _; first | refine Ar (α := Nat) 0 hG Y Y Y Y (by omega) Y ?_ | refine Ar (α := Nat) 1 hG Y Y Y Y (by omega) Y ?_ | refine r_ld 0 hG Y Y Y Y ?_ | refine r_ld 1 hG Y Y Y Y ?_)
      | (show AOp _ _ ⟨_, .store _ _ _, _, _, _, _⟩ _ _ _; first | refine At (α := Nat) 0 hG Y Y Y Aj Aw Y Y (by first | omega | (simp only [Array.size_setIfInBounds]; omega)) ?_ | refine At (α := Nat) 1 hG Y Y Y Aj Aw Y Y (by first | omega | (simp only [Array.size_setIfInBounds]; omega)) ?_ | refine r_st 0 hG Y Y Y Y Y Y Y ?_ | refine r_st 1 hG Y Y Y Y Y Y Y ?_)
      | refine r_q hG Y Y Y ?_); exact kk)
    | (refine' Bi Y Y Y Y (fun K kk => ?_) ?_; (try (show Go.Ts.T; rotate_left)); refine r_ld 0 hG Y Y Y Y ?_; exact kk)
    | refine dq0_e Y ?_ | (refine dq0_nil ?_; show EL _ _ _ _ _ _ _ _ _)
    | (refine Ba ⟨_, Y⟩ Y Y Y (fun K ke => ?_); refine r_st 0 hG Y Y Y Y Y Y Y ?_; refine ke (.tup []) _ ?_)
    | (refine el_nil ⟨_, Y⟩ ?_; show AL _ _ _ _ _ _ _ _) | fail)
  refine al_nil ?_
  rw [show (r ^^^ r * 2 ^ Int.toNat 13 % 18446744073709551616) = s from hs.symm]
  dsimp (config := { zetaDelta := true }) only [A7, Am]
  repeat' (first | (show AL _ _ _ _ _ _ _ _; first | refine so3 ?_) | (show DL _ _ _ _ _ _ _; first | refine do3 ?_) | (show AW _ _ _ _ _ _; (fail_if_success show AW _ _ (.region 2 _ _) _ _ _); first | (show AW _ _ (.region _ _ _) _ _ _; refine sc0 ?_; intro O1) | (refine sc1 ?_; try intro Q1)) | (show (_ → _) ∧ _; refine ⟨fun h => ?_, fun h => ?_⟩) | fail)
  refine Bg (m := 10) [9] [2, 5] (fun σ => ∃ c : List Go.Ts.T, σ = ⟨[(i, .cells c)], [], off, none⟩) mix Y Y (by repeat (first | exact Sp.zero _ | apply Sp.succ)) ?_; intro O1 F1 Z1 Q2; repeat' (first
    | (refine' dq0_cons Y Y Y Y (fun σ hσ K kk => ?_) ?_; (try (show Go.Ts.T; rotate_left)); (obtain ⟨c, hcs⟩ := hσ; subst hcs); (first
      | (show AOp _ _ ⟨_, .move _, _, _, _, _⟩ _ _ _; refine r_move hG Y Y ?_)
      | (show AOp _ _ ⟨_, .assign _, _, _, _, _⟩ _ _ _; refine r_asg hG Y Y ?_)
      | (show AOp _ _ ⟨_, .binOp .shr _ _ _ _, _, _, _, _⟩ _ _ _; refine r_shrU hG Y Y Y Y (by omega) ?_)
      | (show AOp _ _ ⟨_, .binOp .shl _ _ _ _, _, _, _, _⟩ _ _ _; refine r_shlU hG Y Y Y Y (by omega) ?_)
      | (show AOp _ _ ⟨_, .binOp .xor _ _ _ _, _, _, _, _⟩ _ _ _; refine r_xorU hG Y Y Y Y (by omega) ?_)
      | (show AOp _ _ ⟨_, .binOp .shr _ _ _ _, _, _, _, _⟩ _ _ _; refine r_shr hG Y Y Y Y (by omega) ?_)
      | (show AOp _ _ ⟨_, .binOp .shl _ _ _ _, _, _, _, _⟩ _ _ _; refine r_shl hG Y Y Y Y (by omega) ?_)
      | (show AOp _ _ ⟨_, .binOp _ _ _ _ _, _, _, _, _⟩ _ _ _; first | refine r_bin' hG Y Y Y ?_)
      | (show AOp _ _ ⟨_, .load _ _, _, _, _, _⟩ _ _ _; first | refine Ar (α := Nat) 0 hG Y Y Y Y (by omega) Y ?_ | refine Ar (α := Nat) 1 hG Y Y Y Y (by omega) Y ?_ | refine r_ld 0 hG Y Y Y Y ?_ | refine r_ld 1 hG Y Y Y Y ?_)
      | (show AOp _ _ ⟨_, .store _ _ _, _, _, _, _⟩ _ _ _; first | refine At (α := Nat) 0 hG Y Y Y Aj Aw Y Y (by first | omega | (simp only [Array.size_setIfInBounds]; omega)) ?_ | refine At (α := Nat) 1 hG Y Y Y Aj Aw Y Y (by first | omega | (simp only [Array.size_setIfInBounds]; omega)) ?_ | refine r_st 0 hG Y Y Y Y Y Y Y ?_ | refine r_st 1 hG Y Y Y Y Y Y Y ?_)
      | refine r_q hG Y Y Y ?_); exact kk)
    | (refine' Bi Y Y Y Y (fun K kk => ?_) ?_; (try (show Go.Ts.T; rotate_left)); refine r_ld 0 hG Y Y Y Y ?_; exact kk)
    | refine dq0_e Y ?_ | (refine dq0_nil ?_; show EL _ _ _ _ _ _ _ _ _)
    | (refine Ba ⟨_, Y⟩ Y Y Y (fun K ke => ?_); refine r_st 0 hG Y Y Y Y Y Y Y ?_; refine ke (.tup []) _ ?_)
    | (refine el_nil ⟨_, Y⟩ ?_; show AL _ _ _ _ _ _ _ _) | fail)
  refine al_nil ?_
  rw [show (s ^^^ s / 2 ^ Int.toNat 7) = t from ht.symm]
  dsimp (config := { zetaDelta := true }) only [A7, Am]
  repeat' (first | (show AL _ _ _ _ _ _ _ _; first | refine so3 ?_) | (show DL _ _ _ _ _ _ _; first | refine do3 ?_) | (show AW _ _ _ _ _ _; (fail_if_success show AW _ _ (.region 3 _ _) _ _ _); first | (show AW _ _ (.region _ _ _) _ _ _; refine sc0 ?_; intro O1) | (refine sc1 ?_; try intro Q1)) | (show (_ → _) ∧ _; refine ⟨fun h => ?_, fun h => ?_⟩) | fail)
  refine Bg (m := 10) [9] [2, 5] (fun σ => ∃ c : List Go.Ts.T, σ = ⟨[(i, .cells c)], [], off, none⟩) mix Y Y (by repeat (first | exact Sp.zero _ | apply Sp.succ)) ?_; intro O1 F1 Z1 Q2; repeat' (first
    | (refine' dq0_cons Y Y Y Y (fun σ hσ K kk => ?_) ?_; (try (show Go.Ts.T; rotate_left)); (obtain ⟨c, hcs⟩ := hσ; subst hcs); (first
      | (show AOp _ _ ⟨_, .move _, _, _, _, _⟩ _ _ _; refine r_move hG Y Y ?_)
      | (show AOp _ _ ⟨_, .assign _, _, _, _, _⟩ _ _ _; refine r_asg hG Y Y ?_)
      | (show AOp _ _ ⟨_, .binOp .shr _ _ _ _, _, _, _, _⟩ _ _ _; refine r_shrU hG Y Y Y Y (by omega) ?_)
      | (show AOp _ _ ⟨_, .binOp .shl _ _ _ _, _, _, _, _⟩ _ _ _; refine r_shlU hG Y Y Y Y (by omega) ?_)
      | (show AOp _ _ ⟨_, .binOp .xor _ _ _ _, _, _, _, _⟩ _ _ _; refine r_xorU hG Y Y Y Y (by omega) ?_)
      | (show AOp _ _ ⟨_, .binOp .shr _ _ _ _, _, _, _, _⟩ _ _ _; refine r_shr hG Y Y Y Y (by omega) ?_)
      | (show AOp _ _ ⟨_, .binOp .shl _ _ _ _, _, _, _, _⟩ _ _ _; refine r_shl hG Y Y Y Y (by omega) ?_)
      | (show AOp _ _ ⟨_, .binOp _ _ _ _ _, _, _, _, _⟩ _ _ _; first | refine r_bin' hG Y Y Y ?_)
      | (show AOp _ _ ⟨_, .load _ _, _, _, _, _⟩ _ _ _; first | refine Ar (α := Nat) 0 hG Y Y Y Y (by omega) Y ?_ | refine Ar (α := Nat) 1 hG Y Y Y Y (by omega) Y ?_ | refine r_ld 0 hG Y Y Y Y ?_ | refine r_ld 1 hG Y Y Y Y ?_)
      | (show AOp _ _ ⟨_, .store _ _ _, _, _, _, _⟩ _ _ _; first | refine At (α := Nat) 0 hG Y Y Y Aj Aw Y Y (by first | omega | (simp only [Array.size_setIfInBounds]; omega)) ?_ | refine At (α := Nat) 1 hG Y Y Y Aj Aw Y Y (by first | omega | (simp only [Array.size_setIfInBounds]; omega)) ?_ | refine r_st 0 hG Y Y Y Y Y Y Y ?_ | refine r_st 1 hG Y Y Y Y Y Y Y ?_)
      | refine r_q hG Y Y Y ?_); exact kk)
    | (refine' Bi Y Y Y Y (fun K kk => ?_) ?_; (try (show Go.Ts.T; rotate_left)); refine r_ld 0 hG Y Y Y Y ?_; exact kk)
    | refine dq0_e Y ?_ | (refine dq0_nil ?_; show EL _ _ _ _ _ _ _ _ _)
    | (refine Ba ⟨_, Y⟩ Y Y Y (fun K ke => ?_); refine r_st 0 hG Y Y Y Y Y Y Y ?_; refine ke (.tup []) _ ?_)
    | (refine el_nil ⟨_, Y⟩ ?_; show AL _ _ _ _ _ _ _ _) | fail)
  refine al_nil ?_
  rw [show (t ^^^ t * 2 ^ Int.toNat 17 % 18446744073709551616) = w from hw.symm]
  dsimp (config := { zetaDelta := true }) only [A7, Am]
  repeat' (first | (show AL _ _ _ _ _ _ _ _; first | refine so3 ?_) | (show DL _ _ _ _ _ _ _; first | refine do3 ?_) | (show AW _ _ _ _ _ _; first | (show AW _ _ (.region _ _ _) _ _ _; refine sc0 ?_; intro O1) | (refine sc1 ?_; try intro Q1)) | (show (_ → _) ∧ _; refine ⟨fun h => ?_, fun h => ?_⟩) | fail)
  refine ret_mut 0 (Ae rfl Ag) rfl (.refl _) rfl ⟨rfl, ?_⟩
  trace_state; rfl
end Go.Proofs.Ythfgocinlbogeaa
set_option maxHeartbeats 4000000
namespace Go.Proofs.Ythfgocinlbogeaa
open Go.Ts
set_option linter.unusedSimpArgs false
set_option linter.unusedVariables false
attribute [local irreducible] Go.Ts.AW Go.Ts.AOps Go.Ts.AL Go.Ts.AOp Go.Ts.ACalls Go.Ts.DL Go.Ts.DQ0 Go.Ts.EL
open Go.Sort
def brkRun (a len m : Nat) : Nat → Nat → UInt64 × Array Nat → Array Nat
  | 0, _, s => s.2
  | f + 1, p, s => brkRun a len m f (p + 1) (breakStep a len m s p)
structure BrX (a len I n : Nat) (r : Array Nat) where
  p : Nat
  s : UInt64 × Array Nat
  hn : s.2.size = n
  lo : I ≤ p
  hi : p ≤ I + 3
  e : brkRun a len (1 <<< bitsLen len) (I + 3 - p) p s = r
theorem brk_small {d : Array Nat} {a b : Nat} (h : ¬ 8 ≤ b - a) : breakPatterns d a b = d := by unfold breakPatterns; rw [if_neg h]
theorem brk_great {d : Array Nat} {a b : Nat} (h : 8 ≤ b - a) : brkRun a (b - a) (1 <<< bitsLen (b - a)) 3 (a + (b - a) / 4 * 2 - 1) (UInt64.ofNat (b - a), d) = breakPatterns d a b := by unfold breakPatterns; rw [if_pos h]; rfl
set_option maxHeartbeats 9000000 in
theorem srt_brk {d0 : Array Nat} {a b : Nat} (hab : a ≤ b) (hb : b ≤ d0.size) (hs : d0.size < 256) : OnRow Try.prog 105 mT [.int .i64 (a : Int), .int .i64 (b : Int)] d0 (.tup []) (breakPatterns d0 a b) := by
  have h56 := next_pow (x := b - a) (by omega)
  intro off i0 n cap hn
  refine Af (N := 65) (rs := []) hG Try.func105 rfl rfl rfl rfl rfl ?_
  by_cases h8 : 8 ≤ b - a
  · rw [← brk_great h8]
    have p1 := two_pow_bitsLen_le (n := b - a) (by omega)
    have p2 : 1 <<< bitsLen (b - a) = 2 ^ bitsLen (b - a) := Nat.one_shiftLeft ..
    have p3 : 0 < 2 ^ bitsLen (b - a) := Nat.two_pow_pos _
    have hM : 1 ≤ 1 <<< bitsLen (b - a) ∧ 1 <<< bitsLen (b - a) ≤ 2 * (b - a) := by omega
    clear p1 p2 p3
    obtain ⟨M, eM⟩ : ∃ M, M = 1 <<< bitsLen (b - a) := ⟨_, rfl⟩
    rw [← eM] at h56 hM ⊢
    repeat' (first | (show AL _ _ _ _ _ _ _ _; first | refine so3 ?_ | refine sp Y Y Y Y Y Y (by apply h56 <;> exact sd) ?_ | (refine sb ?_; intro i)) | (show DL _ _ _ _ _ _ _; first | refine do3 ?_ | refine dp Y Y Y Y Y Y Y (by apply h56 <;> exact sd) ?_) | (show AW _ _ _ _ _ _; first | (show AW _ _ (.region _ _ _) _ _ _; refine sc0 ?_; intro O1) | (refine sc1 ?_; try intro Q1)) | (show (_ → _) ∧ _; refine ⟨fun h => ?_, fun h => ?_⟩) | fail)
    refine A5 (X := BrX a (b - a) (a + (b - a) / 4 * 2 - 1) n (brkRun a (b - a) M 3 (a + (b - a) / 4 * 2 - 1) (UInt64.ofNat (b - a), d0))) (fun x => [(0, .aref 1 i0 0 n cap), (1, .int .i64 (a : Int)), (6, .int .i64 ((b - a : Nat) : Int)), (7, .ptr i 0), (8, .int .u64 (M : Int)), (9, .int .i64 (x.p : Int))])
      (fun x => ⟨[(i, .cells [.int .u64 (x.s.1.toNat : Int)]), (i0, .cells (rowT mT x.s.2))], [], off, none⟩) (fun x => a + (b - a) / 4 * 2 + 3 - x.p) ⟨a + (b - a) / 4 * 2 - 1, (UInt64.ofNat (b - a), d0), hn, by omega, by omega, by rw [← eM]; congr 1; omega⟩ (by repeat (first | exact .nil _ | refine .cons rfl ?_)) ?_ ?_
    · have e0 : (UInt64.ofNat (b - a)).toNat = b - a := by rw [UInt64.toNat_ofNat']; omega
      show Ts.GStep _ ⟨[(i, .cells [.int .u64 (((UInt64.ofNat (b - a)).toNat : Nat) : Int)]), (i0, .cells (rowT mT d0))], [], off, none⟩
      rw [e0]; exact .refl _
    rintro ⟨p, ⟨r, d⟩, hdn, lo, hi, he⟩
    dsimp only at he hdn ⊢
    by_cases h1 : p < a + (b - a) / 4 * 2 + 2
    · have hx := xor_next (r := r.toNat) r.toNat_lt
      rw [← xorNext_toNat] at hx
      have hr2 : (xorNext r).toNat < 18446744073709551616 := (xorNext r).toNat_lt
      have ho : (xorNext r).toNat &&& (M - 1) ≤ M - 1 := Nat.and_le_right
      have he2 : brkRun a (b - a) (1 <<< bitsLen (b - a)) (a + (b - a) / 4 * 2 - 1 + 3 - (p + 1)) (p + 1) (breakStep a (b - a) (1 <<< bitsLen (b - a)) (r, d) p) = brkRun a (b - a) M 3 (a + (b - a) / 4 * 2 - 1) (UInt64.ofNat (b - a), d0) := by
        rw [← he, show a + (b - a) / 4 * 2 - 1 + 3 - p = (a + (b - a) / 4 * 2 - 1 + 3 - (p + 1)) + 1 by omega]; rfl
      rw [show breakStep a (b - a) (1 <<< bitsLen (b - a)) (r, d) p = (xorNext r, swp d p (a + (if (xorNext r).toNat &&& (M - 1) ≥ b - a then ((xorNext r).toNat &&& (M - 1)) - (b - a) else (xorNext r).toNat &&& (M - 1)))) by rw [eM]; rfl] at he2
      repeat' (first | (show AL _ _ _ _ _ _ _ _; first | refine so3 ?_ | (refine Ac Y (r_mut Y Y Y Y Y (List.Perm.refl _) hx ?_); rintro _ _ ⟨e1, e2⟩; subst e1; subst e2) | (refine sb ?_; intro i)) | (show DL _ _ _ _ _ _ _; first | refine do3 ?_) | (show AW _ _ _ _ _ _; (fail_if_success show AW _ _ (.region 10 _ _) _ _ _); first | (show AW _ _ (.region _ _ _) _ _ _; refine sc0 ?_; intro O1) | (refine sc1 ?_; try intro Q1)) | (show (_ → _) ∧ _; refine ⟨fun h => ?_, fun h => ?_⟩) | fail)
      · rw [if_pos (by omega)] at he2
        refine Bg (m := 18) [17] [11, 15] (fun σ => ∃ c : Array Nat, c.size = n ∧ σ = ⟨[(i, .cells [.int .u64 ((xorNext r).toNat : Int)]), (i0, .cells (rowT mT c))], [], off, none⟩) mix Y Y (by repeat (first | exact Sp.zero _ | apply Sp.succ)) ?_; intro O1 F1 Z1 Q2; repeat' (first
    | (refine' dq0_cons Y Y Y Y (fun σ hσ K kk => ?_) ?_; (try (show Go.Ts.T; rotate_left)); (obtain ⟨c, hcn, hcs⟩ := hσ; subst hcs); (first
      | (show AOp _ _ ⟨_, .move _, _, _, _, _⟩ _ _ _; refine r_move hG Y Y ?_)
      | (show AOp _ _ ⟨_, .assign _, _, _, _, _⟩ _ _ _; refine r_asg hG Y Y ?_)
      | (show AOp _ _ ⟨_, .binOp .add _ _ _ _, _, _, _, _⟩ _ _ _; first | refine Ah hG Y Y Y Y Y (by omega) ?_ | refine Ah (m := 1) hG Y Y Y Y Y (by omega) ?_ | refine Ao hG Y Y Y Y Y (by omega) ?_)
      | (show AOp _ _ ⟨_, .binOp .sub _ _ _ _, _, _, _, _⟩ _ _ _; first | refine A8 hG Y Y Y Y (by omega) ?_ | refine A8 (m := 1) hG Y Y Y Y (by omega) ?_ | refine r_subU (m := 1) hG Y Y Y Y (by omega) ?_ | refine Ao hG Y Y Y Y Y (by omega) ?_ | refine Bf hG Y Y Y Y Y (by omega) ?_)
      | (show AOp _ _ ⟨_, .binOp .mul _ _ _ _, _, _, _, _⟩ _ _ _; first | refine Ah hG Y Y Y Y Y (by omega) ?_ | refine Ah (m := 1) hG Y Y Y Y Y (by omega) ?_ | refine Ah (m := 2) hG Y Y Y Y Y (by omega) ?_ | refine Ah (m := 3) hG Y Y Y Y Y (by omega) ?_ | refine Ah (n := 2) hG Y Y Y Y Y (by omega) ?_ | refine Ao hG Y Y Y Y Y (by omega) ?_)
      | (show AOp _ _ ⟨_, .binOp .quo _ _ _ _, _, _, _, _⟩ _ _ _; first | refine A2 (m := 2) hG Y Y Y Y (by omega) ?_ | refine A2 (m := 4) hG Y Y Y Y (by omega) ?_ | refine A2 (m := 8) hG Y Y Y Y (by omega) ?_)
      | (show AOp _ _ ⟨_, .binOp .and _ _ _ _, _, _, _, _⟩ _ _ _; first | refine r_andU hG Y Y Y Y (by omega) ?_ | refine r_andU (m := 63) hG Y Y Y Y (by omega) ?_)
      | (show AOp _ _ ⟨_, .binOp .and _ _ _ _, _, _, _, _⟩ _ _ _; refine r_and63 hG Y Y (by omega) Y ?_)
      | (show AOp _ _ ⟨_, .binOp _ _ _ _ _, _, _, _, _⟩ _ _ _; first | refine r_cmpT hG Y Y Y Y Y (by omega) ?_ | refine r_cmpF hG Y Y Y Y Y (by omega) ?_ | refine r_bin' hG Y Y Y ?_)
      | (show AOp _ _ ⟨_, .load _ _, _, _, _, _⟩ _ _ _; first | refine Ar (α := Nat) 0 hG Y Y Y Y (by omega) Y ?_ | refine Ar (α := Nat) 1 hG Y Y Y Y (by omega) Y ?_ | refine r_ldro hG Y Y Y ?_ | refine r_ld 0 hG Y Y Y Y ?_ | refine r_ld 1 hG Y Y Y Y ?_)
      | (show AOp _ _ ⟨_, .indexAddr _ _ _, _, _, _, _⟩ _ _ _; first | refine r_idxL hG Y Y Y Y Y Y Y (by omega) ?_ | refine r_idxn hG Y Y Y Y Y Y Y (by omega) ?_ | refine r_idxm hG Y Y Y Y Y Y Y (by omega) ?_ | refine r_idx hG Y Y ?_)
      | (show AOp _ _ ⟨_, .convert _ _ _, _, _, _, _⟩ _ _ _; first | refine r_cv_i64 hG Y Y Y Y Y (by omega) ?_ | refine r_cv_u64 hG Y Y Y Y Y (by omega) ?_ | refine r_cvw hG Y Y Y Y Y ?_)
      | (show AOp _ _ ⟨_, .alloc _, _, _, _, _⟩ _ _ _; refine r_alloc hG Y Y (fun i => ?_))
      | (show AOp _ _ ⟨_, .store _ _ _, _, _, _, _⟩ _ _ _; first | refine At (α := Nat) 0 hG Y Y Y Aj Aw Y Y (by first | omega | (simp only [Array.size_setIfInBounds]; omega)) ?_ | refine At (α := Nat) 1 hG Y Y Y Aj Aw Y Y (by first | omega | (simp only [Array.size_setIfInBounds]; omega)) ?_ | refine r_st 0 hG Y Y Y Y Y Y Y ?_ | refine r_st 1 hG Y Y Y Y Y Y Y ?_)
      | refine r_q hG Y Y Y ?_); exact kk)
    | (refine' Bi Y Y Y Y (fun K kk => ?_) ?_; (try (show Go.Ts.T; rotate_left)); (first | refine Ar 0 hG Y Y Y Y (by omega) Y ?_ | refine Ar 1 hG Y Y Y Y (by omega) Y ?_); exact kk)
    | refine dq0_e Y ?_ | (refine dq0_nil ?_; show EL _ _ _ _ _ _ _ _ _)
    | (refine Ba ⟨_, (by first | assumption | (simp only [Array.size_setIfInBounds]; omega)), Y⟩ Y Y Y (fun K ke => ?_); (first | refine At (α := Nat) 0 hG Y Y Y Aj Aw Y Y (by first | omega | (simp only [Array.size_setIfInBounds]; omega)) ?_ | refine At (α := Nat) 1 hG Y Y Y Aj Aw Y Y (by first | omega | (simp only [Array.size_setIfInBounds]; omega)) ?_); refine ke (.tup []) _ ?_)
    | (refine el_nil ⟨_, (by first | assumption | (simp only [Array.size_setIfInBounds]; omega)), Y⟩ ?_; show AL _ _ _ _ _ _ _ _) | fail)
        repeat' (first | (show AL _ _ _ _ _ _ _ _; first | refine so3 ?_ | (refine sb ?_; intro i)) | (show DL _ _ _ _ _ _ _; first | refine do3 ?_) | (show AW _ _ _ _ _ _; first | (show AW _ _ (.region _ _ _) _ _ _; refine sc0 ?_; intro O1) | (refine sc1 ?_; try intro Q1)) | (show (_ → _) ∧ _; refine ⟨fun h => ?_, fun h => ?_⟩) | fail)
        exact ⟨⟨p + 1, (xorNext r, swp d p (a + (((xorNext r).toNat &&& (M - 1)) - (b - a)))), by rw [size_swp]; exact hdn, by omega, by omega, he2⟩, by dsimp only; omega, (by repeat (first | exact .nil _ | refine .cons rfl ?_)), .refl _⟩
      · rw [if_neg (by omega)] at he2
        refine Bg (m := 18) [17] [11, 15] (fun σ => ∃ c : Array Nat, c.size = n ∧ σ = ⟨[(i, .cells [.int .u64 ((xorNext r).toNat : Int)]), (i0, .cells (rowT mT c))], [], off, none⟩) mix Y Y (by repeat (first | exact Sp.zero _ | apply Sp.succ)) ?_; intro O1 F1 Z1 Q2; repeat' (first
    | (refine' dq0_cons Y Y Y Y (fun σ hσ K kk => ?_) ?_; (try (show Go.Ts.T; rotate_left)); (obtain ⟨c, hcn, hcs⟩ := hσ; subst hcs); (first
      | (show AOp _ _ ⟨_, .move _, _, _, _, _⟩ _ _ _; refine r_move hG Y Y ?_)
      | (show AOp _ _ ⟨_, .assign _, _, _, _, _⟩ _ _ _; refine r_asg hG Y Y ?_)
      | (show AOp _ _ ⟨_, .binOp .add _ _ _ _, _, _, _, _⟩ _ _ _; first | refine Ah hG Y Y Y Y Y (by omega) ?_ | refine Ah (m := 1) hG Y Y Y Y Y (by omega) ?_ | refine Ao hG Y Y Y Y Y (by omega) ?_)
      | (show AOp _ _ ⟨_, .binOp .sub _ _ _ _, _, _, _, _⟩ _ _ _; first | refine A8 hG Y Y Y Y (by omega) ?_ | refine A8 (m := 1) hG Y Y Y Y (by omega) ?_ | refine r_subU (m := 1) hG Y Y Y Y (by omega) ?_ | refine Ao hG Y Y Y Y Y (by omega) ?_ | refine Bf hG Y Y Y Y Y (by omega) ?_)
      | (show AOp _ _ ⟨_, .binOp .mul _ _ _ _, _, _, _, _⟩ _ _ _; first | refine Ah hG Y Y Y Y Y (by omega) ?_ | refine Ah (m := 1) hG Y Y Y Y Y (by omega) ?_ | refine Ah (m := 2) hG Y Y Y Y Y (by omega) ?_ | refine Ah (m := 3) hG Y Y Y Y Y (by omega) ?_ | refine Ah (n := 2) hG Y Y Y Y Y (by omega) ?_ | refine Ao hG Y Y Y Y Y (by omega) ?_)
      | (show AOp _ _ ⟨_, .binOp .quo _ _ _ _, _, _, _, _⟩ _ _ _; first | refine A2 (m := 2) hG Y Y Y Y (by omega) ?_ | refine A2 (m := 4) hG Y Y Y Y (by omega) ?_ | refine A2 (m := 8) hG Y Y Y Y (by omega) ?_)
      | (show AOp _ _ ⟨_, .binOp .and _ _ _ _, _, _, _, _⟩ _ _ _; first | refine r_andU hG Y Y Y Y (by omega) ?_ | refine r_andU (m := 63) hG Y Y Y Y (by omega) ?_)
      | (show AOp _ _ ⟨_, .binOp .and _ _ _ _, _, _, _, _⟩ _ _ _; refine r_and63 hG Y Y (by omega) Y ?_)
      | (show AOp _ _ ⟨_, .binOp _ _ _ _ _, _, _, _, _⟩ _ _ _; first | refine r_cmpT hG Y Y Y Y Y (by omega) ?_ | refine r_cmpF hG Y Y Y Y Y (by omega) ?_ | refine r_bin' hG Y Y Y ?_)
      | (show AOp _ _ ⟨_, .load _ _, _, _, _, _⟩ _ _ _; first | refine Ar (α := Nat) 0 hG Y Y Y Y (by omega) Y ?_ | refine Ar (α := Nat) 1 hG Y Y Y Y (by omega) Y ?_ | refine r_ldro hG Y Y Y ?_ | refine r_ld 0 hG Y Y Y Y ?_ | refine r_ld 1 hG Y Y Y Y ?_)
      | (show AOp _ _ ⟨_, .indexAddr _ _ _, _, _, _, _⟩ _ _ _; first | refine r_idxL hG Y Y Y Y Y Y Y (by omega) ?_ | refine r_idxn hG Y Y Y Y Y Y Y (by omega) ?_ | refine r_idxm hG Y Y Y Y Y Y Y (by omega) ?_ | refine r_idx hG Y Y ?_)
      | (show AOp _ _ ⟨_, .convert _ _ _, _, _, _, _⟩ _ _ _; first | refine r_cv_i64 hG Y Y Y Y Y (by omega) ?_ | refine r_cv_u64 hG Y Y Y Y Y (by omega) ?_ | refine r_cvw hG Y Y Y Y Y ?_)
      | (show AOp _ _ ⟨_, .alloc _, _, _, _, _⟩ _ _ _; refine r_alloc hG Y Y (fun i => ?_))
      | (show AOp _ _ ⟨_, .store _ _ _, _, _, _, _⟩ _ _ _; first | refine At (α := Nat) 0 hG Y Y Y Aj Aw Y Y (by first | omega | (simp only [Array.size_setIfInBounds]; omega)) ?_ | refine At (α := Nat) 1 hG Y Y Y Aj Aw Y Y (by first | omega | (simp only [Array.size_setIfInBounds]; omega)) ?_ | refine r_st 0 hG Y Y Y Y Y Y Y ?_ | refine r_st 1 hG Y Y Y Y Y Y Y ?_)
      | refine r_q hG Y Y Y ?_); exact kk)
    | (refine' Bi Y Y Y Y (fun K kk => ?_) ?_; (try (show Go.Ts.T; rotate_left)); (first | refine Ar 0 hG Y Y Y Y (by omega) Y ?_ | refine Ar 1 hG Y Y Y Y (by omega) Y ?_); exact kk)
    | refine dq0_e Y ?_ | (refine dq0_nil ?_; show EL _ _ _ _ _ _ _ _ _)
    | (refine Ba ⟨_, (by first | assumption | (simp only [Array.size_setIfInBounds]; omega)), Y⟩ Y Y Y (fun K ke => ?_); (first | refine At (α := Nat) 0 hG Y Y Y Aj Aw Y Y (by first | omega | (simp only [Array.size_setIfInBounds]; omega)) ?_ | refine At (α := Nat) 1 hG Y Y Y Aj Aw Y Y (by first | omega | (simp only [Array.size_setIfInBounds]; omega)) ?_); refine ke (.tup []) _ ?_)
    | (refine el_nil ⟨_, (by first | assumption | (simp only [Array.size_setIfInBounds]; omega)), Y⟩ ?_; show AL _ _ _ _ _ _ _ _) | fail)
        repeat' (first | (show AL _ _ _ _ _ _ _ _; first | refine so3 ?_ | (refine sb ?_; intro i)) | (show DL _ _ _ _ _ _ _; first | refine do3 ?_) | (show AW _ _ _ _ _ _; first | (show AW _ _ (.region _ _ _) _ _ _; refine sc0 ?_; intro O1) | (refine sc1 ?_; try intro Q1)) | (show (_ → _) ∧ _; refine ⟨fun h => ?_, fun h => ?_⟩) | fail)
        exact ⟨⟨p + 1, (xorNext r, swp d p (a + ((xorNext r).toNat &&& (M - 1)))), by rw [size_swp]; exact hdn, by omega, by omega, he2⟩, by dsimp only; omega, (by repeat (first | exact .nil _ | refine .cons rfl ?_)), .refl _⟩
    · have hd : brkRun a (b - a) M 3 (a + (b - a) / 4 * 2 - 1) (UInt64.ofNat (b - a), d0) = d := by rw [← he, show a + (b - a) / 4 * 2 - 1 + 3 - p = 0 by omega]; rfl
      repeat' (first | (show AL _ _ _ _ _ _ _ _; first | refine so3 ?_ | (refine sb ?_; intro i)) | (show DL _ _ _ _ _ _ _; first | refine do3 ?_) | (show AW _ _ _ _ _ _; first | (show AW _ _ (.region _ _ _) _ _ _; refine sc0 ?_; intro O1) | (refine sc1 ?_; try intro Q1)) | (show (_ → _) ∧ _; refine ⟨fun h => ?_, fun h => ?_⟩) | fail)
      refine Be ?_
      dsimp (config := { zetaDelta := true }) only [A7, Am]
      rw [hd]
      refine ret_rowE 1 Ag ?_ (.refl _) ?_ <;> rfl
  · rw [brk_small h8]
    repeat' (first | (show AL _ _ _ _ _ _ _ _; first | refine so3 ?_ | (refine sb ?_; intro i)) | (show DL _ _ _ _ _ _ _; first | refine do3 ?_) | (show AW _ _ _ _ _ _; first | (show AW _ _ (.region _ _ _) _ _ _; refine sc0 ?_; intro O1) | (refine sc1 ?_; try intro Q1)) | (show (_ → _) ∧ _; refine ⟨fun h => ?_, fun h => ?_⟩) | fail)
    refine aw_skip ?_
    refine ret_rowE 0 Ag ?_ (.refl _) ?_ <;> rfl
end Go.Proofs.Ythfgocinlbogeaa
