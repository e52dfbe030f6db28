/- Part of the proof of the law Object2All: the texts S1, S2, S3, PC, S4, S5. No conditions. -/
import Derived.Test.YtholeicgmkjadaaObject2AllB
set_option linter.unusedSimpArgs false
set_option linter.unusedVariables false
namespace Go.Proofs.Ytholeicgmkjadaa
open Go.Ts
attribute [local irreducible] Go.Ts.AW Go.Ts.AOps Go.Ts.AL Go.Ts.AOp Go.Ts.ACalls Go.Ts.DL
theorem mix : Try.prog.follows .mixedOrders = true := by kernel_rfl

theorem clone_b {x : T} {b : List UInt8} (hx : bytesT x = some b) (hl : b.length ≤ 4294967296) : Owns Try.prog 55 [x] 1 (b.map bT) := by
  refine Owns.weak (us := [sT b]) ?_ (wk1 (bytesT_wk hx))
  intro off
  refine acalls_mk (N := 8) (rs := [.tmp 2]) hG Try.func55 rfl rfl rfl rfl rfl ?_
  repeat' (first
    | ((show AL _ _ _ _ _ _ _ _; refine al_cons rfl ?_); (first
      | (show AOp _ _ ⟨_, .move _, _, _, _, _⟩ _ _ _; refine r_move hG rfl rfl ?_)
      | (show AOp _ _ ⟨_, .assign _, _, _, _, _⟩ _ _ _; refine r_asg hG rfl rfl ?_)
      | (show AOp _ _ ⟨_, .binOp _ _ _ _ _, _, _, _, _⟩ _ _ _; first | refine r_cmpT hG rfl rfl rfl rfl rfl (by omega) ?_ | refine r_cmpF hG rfl rfl rfl rfl rfl (by omega) ?_ | refine r_strT hG rfl rfl rfl rfl (by first | rfl | assumption) ?_ | refine r_strnF hG rfl rfl rfl rfl (by first | rfl | assumption) ?_ | refine r_strF hG rfl rfl rfl rfl (by assumption) ?_ | refine r_strnT hG rfl rfl rfl rfl (by assumption) ?_ | (refine r_cmp hG rfl rfl rfl rfl rfl (fun h => ?_) (fun h => ?_)) | (first | refine r_str hG rfl rfl rfl rfl (fun h => ?_) (fun h => ?_) | refine r_strn hG rfl rfl rfl rfl (fun h => ?_) (fun h => ?_)) | refine r_beq hG rfl rfl rfl rfl rfl ?_ | refine r_bin' hG rfl rfl rfl ?_)
      | (show AOp _ _ ⟨_, .buildSlice _ _ _, _, _, _, _⟩ _ _ _; first | refine r_mk (sz := 1) hG rfl rfl rfl rfl rfl rfl rfl ?_ | refine r_mk (sz := 2) hG rfl rfl rfl rfl rfl rfl rfl ?_)
      | (show AOp _ _ ⟨_, .call ⟨.builtin .append, _, _⟩, _, _, _, _⟩ _ _ _; first | refine r_app0m (sz := 1) (xs := []) hG rfl rfl rfl rfl rfl rfl rfl ⟨_, rfl⟩ rfl rfl rfl rfl rfl rfl rfl (by first | omega | (simp; omega)) (fun k => ?_) | refine r_appm 0 hG rfl rfl rfl rfl rfl rfl rfl ⟨_, rfl⟩ rfl rfl rfl rfl rfl (by first | omega | (simp only [List.length_append, List.length_cons, List.length_nil]; omega)) (fun k => ?_) | fail)
      | refine r_q hG rfl rfl rfl ?_))
    | (show AL _ _ _ _ _ _ _ _; first | refine al_s rfl rfl rfl ?_ | (refine al_nil ?_; first | show AW _ _ _ _ _ _ | show ∃ x', _ < _ ∧ _)) | (show AW _ _ (.seq _ _) _ _ _; refine aw_seq' ?_; intro Q1) | (show AW _ _ (.region _ _ false) _ _ _; refine aw_regL' ?_; intro O1) | (show AW _ _ (.cond _ _ _) _ _ _; first | refine aw_if_t rfl ?_ | refine aw_if_f rfl ?_) | (show AW _ _ (.skip) _ _ _; refine aw_skip ?_; first | show AW _ _ _ _ _ _ | show ∃ x', _ < _ ∧ _) | (show AW _ _ (.ret) _ _ _; refine aw_ret ?_; try dsimp only [thenA, inBlockA, jumpA, noGotoA]) | fail)
  refine al_cons rfl (op_eqnil hG rfl rfl rfl rfl rfl rfl rfl rfl (fun b hb => ?_))
  cases b with
  | true =>
    repeat' (first
    | ((show AL _ _ _ _ _ _ _ _; refine al_cons rfl ?_); (first
      | (show AOp _ _ ⟨_, .move _, _, _, _, _⟩ _ _ _; refine r_move hG rfl rfl ?_)
      | (show AOp _ _ ⟨_, .assign _, _, _, _, _⟩ _ _ _; refine r_asg hG rfl rfl ?_)
      | (show AOp _ _ ⟨_, .binOp _ _ _ _ _, _, _, _, _⟩ _ _ _; first | refine r_cmpT hG rfl rfl rfl rfl rfl (by omega) ?_ | refine r_cmpF hG rfl rfl rfl rfl rfl (by omega) ?_ | refine r_strT hG rfl rfl rfl rfl (by first | rfl | assumption) ?_ | refine r_strnF hG rfl rfl rfl rfl (by first | rfl | assumption) ?_ | refine r_strF hG rfl rfl rfl rfl (by assumption) ?_ | refine r_strnT hG rfl rfl rfl rfl (by assumption) ?_ | (refine r_cmp hG rfl rfl rfl rfl rfl (fun h => ?_) (fun h => ?_)) | (first | refine r_str hG rfl rfl rfl rfl (fun h => ?_) (fun h => ?_) | refine r_strn hG rfl rfl rfl rfl (fun h => ?_) (fun h => ?_)) | refine r_beq hG rfl rfl rfl rfl rfl ?_ | refine r_bin' hG rfl rfl rfl ?_)
      | (show AOp _ _ ⟨_, .buildSlice _ _ _, _, _, _, _⟩ _ _ _; first | refine r_mk (sz := 1) hG rfl rfl rfl rfl rfl rfl rfl ?_ | refine r_mk (sz := 2) hG rfl rfl rfl rfl rfl rfl rfl ?_)
      | (show AOp _ _ ⟨_, .call ⟨.builtin .append, _, _⟩, _, _, _, _⟩ _ _ _; first | refine r_app0m (sz := 1) (xs := []) hG rfl rfl rfl rfl rfl rfl rfl ⟨_, rfl⟩ rfl rfl rfl rfl rfl rfl rfl (by first | omega | (simp; omega)) (fun k => ?_) | refine r_appm 0 hG rfl rfl rfl rfl rfl rfl rfl ⟨_, rfl⟩ rfl rfl rfl rfl rfl (by first | omega | (simp only [List.length_append, List.length_cons, List.length_nil]; omega)) (fun k => ?_) | fail)
      | refine r_q hG rfl rfl rfl ?_))
    | (show AL _ _ _ _ _ _ _ _; first | refine al_s rfl rfl rfl ?_ | (refine al_nil ?_; first | show AW _ _ _ _ _ _ | show ∃ x', _ < _ ∧ _)) | (show AW _ _ (.seq _ _) _ _ _; refine aw_seq' ?_; intro Q1) | (show AW _ _ (.region _ _ false) _ _ _; refine aw_regL' ?_; intro O1) | (show AW _ _ (.cond _ _ _) _ _ _; first | refine aw_if_t rfl ?_ | refine aw_if_f rfl ?_) | (show AW _ _ (.skip) _ _ _; refine aw_skip ?_; first | show AW _ _ _ _ _ _ | show ∃ x', _ < _ ∧ _) | (show AW _ _ (.ret) _ _ _; refine aw_ret ?_; try dsimp only [thenA, inBlockA, jumpA, noGotoA]) | fail)
    exact ret_owns0 (sz := 1) (res_tmp rfl res_nil) rfl rfl (by rw [hb rfl]) rfl
  | false =>
    repeat' (first
    | ((show AL _ _ _ _ _ _ _ _; refine al_cons rfl ?_); (first
      | (show AOp _ _ ⟨_, .move _, _, _, _, _⟩ _ _ _; refine r_move hG rfl rfl ?_)
      | (show AOp _ _ ⟨_, .assign _, _, _, _, _⟩ _ _ _; refine r_asg hG rfl rfl ?_)
      | (show AOp _ _ ⟨_, .binOp _ _ _ _ _, _, _, _, _⟩ _ _ _; first | refine r_cmpT hG rfl rfl rfl rfl rfl (by omega) ?_ | refine r_cmpF hG rfl rfl rfl rfl rfl (by omega) ?_ | refine r_strT hG rfl rfl rfl rfl (by first | rfl | assumption) ?_ | refine r_strnF hG rfl rfl rfl rfl (by first | rfl | assumption) ?_ | refine r_strF hG rfl rfl rfl rfl (by assumption) ?_ | refine r_strnT hG rfl rfl rfl rfl (by assumption) ?_ | (refine r_cmp hG rfl rfl rfl rfl rfl (fun h => ?_) (fun h => ?_)) | (first | refine r_str hG rfl rfl rfl rfl (fun h => ?_) (fun h => ?_) | refine r_strn hG rfl rfl rfl rfl (fun h => ?_) (fun h => ?_)) | refine r_beq hG rfl rfl rfl rfl rfl ?_ | refine r_bin' hG rfl rfl rfl ?_)
      | (show AOp _ _ ⟨_, .buildSlice _ _ _, _, _, _, _⟩ _ _ _; first | refine r_mk (sz := 1) hG rfl rfl rfl rfl rfl rfl rfl ?_ | refine r_mk (sz := 2) hG rfl rfl rfl rfl rfl rfl rfl ?_)
      | (show AOp _ _ ⟨_, .call ⟨.builtin .append, _, _⟩, _, _, _, _⟩ _ _ _; first | refine r_app0m (sz := 1) (xs := []) hG rfl rfl rfl rfl rfl rfl rfl ⟨_, rfl⟩ rfl rfl rfl rfl rfl rfl rfl (by first | omega | (simp; omega)) (fun k => ?_) | refine r_appm 0 hG rfl rfl rfl rfl rfl rfl rfl ⟨_, rfl⟩ rfl rfl rfl rfl rfl (by first | omega | (simp only [List.length_append, List.length_cons, List.length_nil]; omega)) (fun k => ?_) | fail)
      | refine r_q hG rfl rfl rfl ?_))
    | (show AL _ _ _ _ _ _ _ _; first | refine al_s rfl rfl rfl ?_ | (refine al_nil ?_; first | show AW _ _ _ _ _ _ | show ∃ x', _ < _ ∧ _)) | (show AW _ _ (.seq _ _) _ _ _; refine aw_seq' ?_; intro Q1) | (show AW _ _ (.region _ _ false) _ _ _; refine aw_regL' ?_; intro O1) | (show AW _ _ (.cond _ _ _) _ _ _; first | refine aw_if_t rfl ?_ | refine aw_if_f rfl ?_) | (show AW _ _ (.skip) _ _ _; refine aw_skip ?_; first | show AW _ _ _ _ _ _ | show ∃ x', _ < _ ∧ _) | (show AW _ _ (.ret) _ _ _; refine aw_ret ?_; try dsimp only [thenA, inBlockA, jumpA, noGotoA]) | fail)
    exact ret_owns 0 (res_tmp rfl res_nil) rfl (by rfl) rfl

def be (v : Nat) : Nat → List UInt8
  | 0 => []
  | n + 1 => UInt8.ofNat (v / 2 ^ (8 * n)) :: be v n
def putI (v n : Int) : List UInt8 := if 0 ≤ n ∧ n ≤ 8 then be v.toNat n.toNat else []
theorem be_length (v n : Nat) : (be v n).length = n := by induction n <;> simp [be, *]
theorem putI_le (v n : Int) : (putI v n).length ≤ 8 := by
  unfold putI; split
  · rw [be_length]; omega
  · simp
theorem bT_of (n : Int) (k : Nat) (h : n = (k : Int)) : T.int .u8 (IntKind.u8.wrap n) = bT (UInt8.ofNat k) := by
  subst h; rw [u8_wrap]; unfold bT; congr 1

structure PutX (v n : Int) where
  hn : 0 ≤ n ∧ n ≤ 8
  i : Nat
  pre : List UInt8
  k : Nat
  hi : i ≤ 8
  hp : pre ++ be v.toNat i = be v.toNat n.toNat
theorem num_Put {x : T} {b : List UInt8} {v n : Int} (hx : bytesT x = some b) (hl : b.length ≤ 4294967000) (hv : 0 ≤ v) :
    Owns Try.prog 32 [x, .int .u64 v, .int .i64 n] 1 ((b ++ putI v n).map bT) := by
  refine Owns.weak (us := [sT b, .int .u64 v, .int .i64 n]) ?_ (wk3 (bytesT_wk hx) (.refl _) (.refl _))
  intro off
  refine acalls_mk (N := 33) (rs := [.tmp 6]) hG Try.func32 rfl rfl rfl rfl rfl ?_
  repeat' (first
    | ((show AL _ _ _ _ _ _ _ _; refine al_cons rfl ?_); (first
      | (show AOp _ _ ⟨_, .move _, _, _, _, _⟩ _ _ _; refine r_move hG rfl rfl ?_)
      | (show AOp _ _ ⟨_, .assign _, _, _, _, _⟩ _ _ _; refine r_asg hG rfl rfl ?_)
      | (show AOp _ _ ⟨_, .binOp .sub _ _ _ _, _, _, _, _⟩ _ _ _; first | refine r_ari64 hG rfl rfl rfl rfl rfl (by omega) ?_ | refine r_aru64 hG rfl rfl rfl rfl rfl (by omega) ?_ | refine r_aru8 hG rfl rfl rfl rfl rfl (by omega) ?_ | refine r_aru16 hG rfl rfl rfl rfl rfl (by omega) ?_)
      | (show AOp _ _ ⟨_, .binOp .mul _ _ _ _, _, _, _, _⟩ _ _ _; first | refine r_ari64 hG rfl rfl rfl rfl rfl (by omega) ?_ | refine r_aru64 hG rfl rfl rfl rfl rfl (by omega) ?_ | refine r_aru8 hG rfl rfl rfl rfl rfl (by omega) ?_ | refine r_aru16 hG rfl rfl rfl rfl rfl (by omega) ?_)
      | (show AOp _ _ ⟨_, .binOp .shr _ _ _ _, _, _, _, _⟩ _ _ _; refine r_shr hG rfl rfl rfl rfl (by omega) ?_)
      | (show AOp _ _ ⟨_, .binOp _ _ _ _ _, _, _, _, _⟩ _ _ _; first | refine r_cmpT hG rfl rfl rfl rfl rfl (by omega) ?_ | refine r_cmpF hG rfl rfl rfl rfl rfl (by omega) ?_ | refine r_strT hG rfl rfl rfl rfl (by first | rfl | assumption) ?_ | refine r_strnF hG rfl rfl rfl rfl (by first | rfl | assumption) ?_ | refine r_strF hG rfl rfl rfl rfl (by assumption) ?_ | refine r_strnT hG rfl rfl rfl rfl (by assumption) ?_ | (refine r_cmp hG rfl rfl rfl rfl rfl (fun h => ?_) (fun h => ?_)) | (first | refine r_str hG rfl rfl rfl rfl (fun h => ?_) (fun h => ?_) | refine r_strn hG rfl rfl rfl rfl (fun h => ?_) (fun h => ?_)) | refine r_beq hG rfl rfl rfl rfl rfl ?_ | refine r_bin' hG rfl rfl rfl ?_)
      | (show AOp _ _ ⟨_, .convert _ _ _, _, _, _, _⟩ _ _ _; first | refine r_tostr hG rfl rfl rfl rfl rfl rfl rfl rfl (by first | exact bytesT_map _ _ | exact bytesT_s _ | rfl) ?_ | refine r_cv8 hG rfl rfl rfl rfl rfl rfl ?_ | refine r_cv16 hG rfl rfl rfl rfl rfl rfl ?_ | refine r_cv_i64 hG rfl rfl rfl rfl rfl (by omega) ?_ | refine r_cv_u64 hG rfl rfl rfl rfl rfl (by omega) ?_ | refine r_cv_u8 hG rfl rfl rfl rfl rfl (by omega) ?_ | refine r_cv_u16 hG rfl rfl rfl rfl rfl (by omega) ?_ | refine r_cvw hG rfl rfl rfl rfl rfl ?_)
      | (show AOp _ _ ⟨_, .pick _ _ _, _, _, _, _⟩ _ _ _; refine r_pick hG rfl rfl rfl ?_)
      | (show AOp _ _ ⟨_, .buildSlice _ _ _, _, _, _, _⟩ _ _ _; first | refine r_mk (sz := 1) hG rfl rfl rfl rfl rfl rfl rfl ?_ | refine r_mk (sz := 2) hG rfl rfl rfl rfl rfl rfl rfl ?_)
      | (show AOp _ _ ⟨_, .call ⟨.builtin .append, _, _⟩, _, _, _, _⟩ _ _ _; first | refine r_app0m (sz := 1) (xs := []) hG rfl rfl rfl rfl rfl rfl rfl ⟨_, rfl⟩ rfl rfl rfl rfl rfl rfl rfl (by first | omega | (simp; omega)) (fun k => ?_) | refine r_appm 0 hG rfl rfl rfl rfl rfl rfl rfl ⟨_, rfl⟩ rfl rfl rfl rfl rfl (by first | omega | (simp only [List.length_append, List.length_cons, List.length_nil]; omega)) (fun k => ?_) | fail)
      | refine r_q hG rfl rfl rfl ?_))
    | (show AL _ _ _ _ _ _ _ _; first | refine al_s rfl rfl rfl ?_ | (refine al_nil ?_; first | show AW _ _ _ _ _ _ | show ∃ x', _ < _ ∧ _)) | (show AW _ _ (.seq _ _) _ _ _; refine aw_seq' ?_; intro Q1) | (show AW _ _ (.region _ _ false) _ _ _; refine aw_regL' ?_; intro O1) | (show AW _ _ (.cond _ _ _) _ _ _; first | refine aw_if_t rfl ?_ | refine aw_if_f rfl ?_) | (show AW _ _ (.skip) _ _ _; refine aw_skip ?_; first | show AW _ _ _ _ _ _ | show ∃ x', _ < _ ∧ _) | (show AW _ _ (.goto _) _ _ _; refine aw_goto ?_; try dsimp only [thenA, inBlockA, jumpA, noGotoA]) | (show AW _ _ (.ret) _ _ _; refine aw_ret ?_; try dsimp only [thenA, inBlockA, jumpA, noGotoA]) | fail)
  refine aw_scope' 0 rfl (X := PutX v n) (fun x => [(1, .int .u64 v), (7, .sl 1 (.tok x.k) ((b ++ x.pre).map bT)), (8, .int .i64 x.i)]) (fun x => ⟨[], [x.k], off, none⟩) (fun x => x.i) ?_ ?_
  · rintro ⟨hn, i, pre, k, hi, hp⟩
    dsimp only
    repeat' (first
    | ((show AL _ _ _ _ _ _ _ _; refine al_cons rfl ?_); (first
      | (show AOp _ _ ⟨_, .move _, _, _, _, _⟩ _ _ _; refine r_move hG rfl rfl ?_)
      | (show AOp _ _ ⟨_, .assign _, _, _, _, _⟩ _ _ _; refine r_asg hG rfl rfl ?_)
      | (show AOp _ _ ⟨_, .binOp .sub _ _ _ _, _, _, _, _⟩ _ _ _; first | refine r_ari64 hG rfl rfl rfl rfl rfl (by omega) ?_ | refine r_aru64 hG rfl rfl rfl rfl rfl (by omega) ?_ | refine r_aru8 hG rfl rfl rfl rfl rfl (by omega) ?_ | refine r_aru16 hG rfl rfl rfl rfl rfl (by omega) ?_)
      | (show AOp _ _ ⟨_, .binOp .mul _ _ _ _, _, _, _, _⟩ _ _ _; first | refine r_ari64 hG rfl rfl rfl rfl rfl (by omega) ?_ | refine r_aru64 hG rfl rfl rfl rfl rfl (by omega) ?_ | refine r_aru8 hG rfl rfl rfl rfl rfl (by omega) ?_ | refine r_aru16 hG rfl rfl rfl rfl rfl (by omega) ?_)
      | (show AOp _ _ ⟨_, .binOp .shr _ _ _ _, _, _, _, _⟩ _ _ _; refine r_shr hG rfl rfl rfl rfl (by omega) ?_)
      | (show AOp _ _ ⟨_, .binOp _ _ _ _ _, _, _, _, _⟩ _ _ _; first | refine r_cmpT hG rfl rfl rfl rfl rfl (by omega) ?_ | refine r_cmpF hG rfl rfl rfl rfl rfl (by omega) ?_ | refine r_strT hG rfl rfl rfl rfl (by first | rfl | assumption) ?_ | refine r_strnF hG rfl rfl rfl rfl (by first | rfl | assumption) ?_ | refine r_strF hG rfl rfl rfl rfl (by assumption) ?_ | refine r_strnT hG rfl rfl rfl rfl (by assumption) ?_ | (refine r_cmp hG rfl rfl rfl rfl rfl (fun h => ?_) (fun h => ?_)) | (first | refine r_str hG rfl rfl rfl rfl (fun h => ?_) (fun h => ?_) | refine r_strn hG rfl rfl rfl rfl (fun h => ?_) (fun h => ?_)) | refine r_beq hG rfl rfl rfl rfl rfl ?_ | refine r_bin' hG rfl rfl rfl ?_)
      | (show AOp _ _ ⟨_, .convert _ _ _, _, _, _, _⟩ _ _ _; first | refine r_tostr hG rfl rfl rfl rfl rfl rfl rfl rfl (by first | exact bytesT_map _ _ | exact bytesT_s _ | rfl) ?_ | refine r_cv8 hG rfl rfl rfl rfl rfl rfl ?_ | refine r_cv16 hG rfl rfl rfl rfl rfl rfl ?_ | refine r_cv_i64 hG rfl rfl rfl rfl rfl (by omega) ?_ | refine r_cv_u64 hG rfl rfl rfl rfl rfl (by omega) ?_ | refine r_cv_u8 hG rfl rfl rfl rfl rfl (by omega) ?_ | refine r_cv_u16 hG rfl rfl rfl rfl rfl (by omega) ?_ | refine r_cvw hG rfl rfl rfl rfl rfl ?_)
      | (show AOp _ _ ⟨_, .pick _ _ _, _, _, _, _⟩ _ _ _; refine r_pick hG rfl rfl rfl ?_)
      | (show AOp _ _ ⟨_, .buildSlice _ _ _, _, _, _, _⟩ _ _ _; first | refine r_mk (sz := 1) hG rfl rfl rfl rfl rfl rfl rfl ?_ | refine r_mk (sz := 2) hG rfl rfl rfl rfl rfl rfl rfl ?_)
      | (show AOp _ _ ⟨_, .call ⟨.builtin .append, _, _⟩, _, _, _, _⟩ _ _ _; first | refine r_app0m (sz := 1) (xs := []) hG rfl rfl rfl rfl rfl rfl rfl ⟨_, rfl⟩ rfl rfl rfl rfl rfl rfl rfl (by first | omega | (simp; omega)) (fun k => ?_) | refine r_appm 0 hG rfl rfl rfl rfl rfl rfl rfl ⟨_, rfl⟩ rfl rfl rfl rfl rfl (by first | omega | (simp only [List.length_append, List.length_cons, List.length_nil]; omega)) (fun k => ?_) | fail)
      | refine r_q hG rfl rfl rfl ?_))
    | (show AL _ _ _ _ _ _ _ _; first | refine al_s rfl rfl rfl ?_ | (refine al_nil ?_; first | show AW _ _ _ _ _ _ | show ∃ x', _ < _ ∧ _)) | (show AW _ _ (.seq _ _) _ _ _; refine aw_seq' ?_; intro Q1) | (show AW _ _ (.region _ _ false) _ _ _; refine aw_regL' ?_; intro O1) | (show AW _ _ (.cond _ _ _) _ _ _; first | refine aw_if_t rfl ?_ | refine aw_if_f rfl ?_) | (show AW _ _ (.skip) _ _ _; refine aw_skip ?_; first | show AW _ _ _ _ _ _ | show ∃ x', _ < _ ∧ _) | (show AW _ _ (.goto _) _ _ _; refine aw_goto ?_; try dsimp only [thenA, inBlockA, jumpA, noGotoA]) | (show AW _ _ (.ret) _ _ _; refine aw_ret ?_; try dsimp only [thenA, inBlockA, jumpA, noGotoA]) | fail)
    · obtain ⟨j, rfl⟩ : ∃ j, i = j + 1 := ⟨i - 1, by omega⟩
      have hpl2 : pre.length + (j + 1) = n.toNat := by have := congrArg List.length hp; simpa [be_length] using this
      have hbyte : T.int IntKind.u8 (IntKind.u8.wrap ((v : Int) / 2 ^ (min (8 * (((j + 1 : Nat) : Int) - 1)).toNat IntKind.u64.bits))) = bT (UInt8.ofNat (v.toNat / 2 ^ (8 * j))) := by
        have : min (8 * (((j + 1 : Nat) : Int) - 1)).toNat IntKind.u64.bits = 8 * j := by simp [IntKind.bits]; omega
        rw [this]
        obtain ⟨v, rfl⟩ := Int.eq_ofNat_of_zero_le hv
        exact bT_of _ _ (by simp)
      refine al_cons rfl (r_appm 0 (ys := [UInt8.ofNat (v.toNat / 2 ^ (8 * j))]) hG rfl rfl rfl rfl rfl rfl rfl ⟨_, rfl⟩ rfl rfl rfl rfl (congrArg (fun t => [t]) hbyte) (by simp; omega) (fun k' => ?_))
      repeat' (first
    | ((show AL _ _ _ _ _ _ _ _; refine al_cons rfl ?_); (first
      | (show AOp _ _ ⟨_, .move _, _, _, _, _⟩ _ _ _; refine r_move hG rfl rfl ?_)
      | (show AOp _ _ ⟨_, .assign _, _, _, _, _⟩ _ _ _; refine r_asg hG rfl rfl ?_)
      | (show AOp _ _ ⟨_, .binOp .sub _ _ _ _, _, _, _, _⟩ _ _ _; first | refine r_ari64 hG rfl rfl rfl rfl rfl (by omega) ?_ | refine r_aru64 hG rfl rfl rfl rfl rfl (by omega) ?_ | refine r_aru8 hG rfl rfl rfl rfl rfl (by omega) ?_ | refine r_aru16 hG rfl rfl rfl rfl rfl (by omega) ?_)
      | (show AOp _ _ ⟨_, .binOp .mul _ _ _ _, _, _, _, _⟩ _ _ _; first | refine r_ari64 hG rfl rfl rfl rfl rfl (by omega) ?_ | refine r_aru64 hG rfl rfl rfl rfl rfl (by omega) ?_ | refine r_aru8 hG rfl rfl rfl rfl rfl (by omega) ?_ | refine r_aru16 hG rfl rfl rfl rfl rfl (by omega) ?_)
      | (show AOp _ _ ⟨_, .binOp .shr _ _ _ _, _, _, _, _⟩ _ _ _; refine r_shr hG rfl rfl rfl rfl (by omega) ?_)
      | (show AOp _ _ ⟨_, .binOp _ _ _ _ _, _, _, _, _⟩ _ _ _; first | refine r_cmpT hG rfl rfl rfl rfl rfl (by omega) ?_ | refine r_cmpF hG rfl rfl rfl rfl rfl (by omega) ?_ | refine r_strT hG rfl rfl rfl rfl (by first | rfl | assumption) ?_ | refine r_strnF hG rfl rfl rfl rfl (by first | rfl | assumption) ?_ | refine r_strF hG rfl rfl rfl rfl (by assumption) ?_ | refine r_strnT hG rfl rfl rfl rfl (by assumption) ?_ | (refine r_cmp hG rfl rfl rfl rfl rfl (fun h => ?_) (fun h => ?_)) | (first | refine r_str hG rfl rfl rfl rfl (fun h => ?_) (fun h => ?_) | refine r_strn hG rfl rfl rfl rfl (fun h => ?_) (fun h => ?_)) | refine r_beq hG rfl rfl rfl rfl rfl ?_ | refine r_bin' hG rfl rfl rfl ?_)
      | (show AOp _ _ ⟨_, .convert _ _ _, _, _, _, _⟩ _ _ _; first | refine r_tostr hG rfl rfl rfl rfl rfl rfl rfl rfl (by first | exact bytesT_map _ _ | exact bytesT_s _ | rfl) ?_ | refine r_cv8 hG rfl rfl rfl rfl rfl rfl ?_ | refine r_cv16 hG rfl rfl rfl rfl rfl rfl ?_ | refine r_cv_i64 hG rfl rfl rfl rfl rfl (by omega) ?_ | refine r_cv_u64 hG rfl rfl rfl rfl rfl (by omega) ?_ | refine r_cv_u8 hG rfl rfl rfl rfl rfl (by omega) ?_ | refine r_cv_u16 hG rfl rfl rfl rfl rfl (by omega) ?_ | refine r_cvw hG rfl rfl rfl rfl rfl ?_)
      | (show AOp _ _ ⟨_, .pick _ _ _, _, _, _, _⟩ _ _ _; refine r_pick hG rfl rfl rfl ?_)
      | (show AOp _ _ ⟨_, .buildSlice _ _ _, _, _, _, _⟩ _ _ _; first | refine r_mk (sz := 1) hG rfl rfl rfl rfl rfl rfl rfl ?_ | refine r_mk (sz := 2) hG rfl rfl rfl rfl rfl rfl rfl ?_)
      | (show AOp _ _ ⟨_, .call ⟨.builtin .append, _, _⟩, _, _, _, _⟩ _ _ _; first | refine r_app0m (sz := 1) (xs := []) hG rfl rfl rfl rfl rfl rfl rfl ⟨_, rfl⟩ rfl rfl rfl rfl rfl rfl rfl (by first | omega | (simp; omega)) (fun k => ?_) | refine r_appm 0 hG rfl rfl rfl rfl rfl rfl rfl ⟨_, rfl⟩ rfl rfl rfl rfl rfl (by first | omega | (simp only [List.length_append, List.length_cons, List.length_nil]; omega)) (fun k => ?_) | fail)
      | refine r_q hG rfl rfl rfl ?_))
    | (show AL _ _ _ _ _ _ _ _; first | refine al_s rfl rfl rfl ?_ | (refine al_nil ?_; first | show AW _ _ _ _ _ _ | show ∃ x', _ < _ ∧ _)) | (show AW _ _ (.seq _ _) _ _ _; refine aw_seq' ?_; intro Q1) | (show AW _ _ (.region _ _ false) _ _ _; refine aw_regL' ?_; intro O1) | (show AW _ _ (.cond _ _ _) _ _ _; first | refine aw_if_t rfl ?_ | refine aw_if_f rfl ?_) | (show AW _ _ (.skip) _ _ _; refine aw_skip ?_; first | show AW _ _ _ _ _ _ | show ∃ x', _ < _ ∧ _) | (show AW _ _ (.goto _) _ _ _; refine aw_goto ?_; try dsimp only [thenA, inBlockA, jumpA, noGotoA]) | (show AW _ _ (.ret) _ _ _; refine aw_ret ?_; try dsimp only [thenA, inBlockA, jumpA, noGotoA]) | fail)
      refine ⟨rfl, ⟨hn, j, pre ++ [UInt8.ofNat (v.toNat / 2 ^ (8 * j))], k', by omega, by rw [List.append_assoc]; exact hp⟩, by dsimp only; omega, ?_, .refl _⟩
      exact .cons rfl (.consW rfl (.eq (by simp)) (.consW rfl (.int (by simp)) (.nil _)))
    · have : i = 0 := by omega
      subst this
      simp only [be, List.append_nil] at hp
      exact ret_owns 0 (res_tmp rfl res_nil) rfl (by rw [hp, putI, if_pos hn]) rfl
  · intro key
    repeat' (first
    | ((show AL _ _ _ _ _ _ _ _; refine al_cons rfl ?_); (first
      | (show AOp _ _ ⟨_, .move _, _, _, _, _⟩ _ _ _; refine r_move hG rfl rfl ?_)
      | (show AOp _ _ ⟨_, .assign _, _, _, _, _⟩ _ _ _; refine r_asg hG rfl rfl ?_)
      | (show AOp _ _ ⟨_, .binOp .sub _ _ _ _, _, _, _, _⟩ _ _ _; first | refine r_ari64 hG rfl rfl rfl rfl rfl (by omega) ?_ | refine r_aru64 hG rfl rfl rfl rfl rfl (by omega) ?_ | refine r_aru8 hG rfl rfl rfl rfl rfl (by omega) ?_ | refine r_aru16 hG rfl rfl rfl rfl rfl (by omega) ?_)
      | (show AOp _ _ ⟨_, .binOp .mul _ _ _ _, _, _, _, _⟩ _ _ _; first | refine r_ari64 hG rfl rfl rfl rfl rfl (by omega) ?_ | refine r_aru64 hG rfl rfl rfl rfl rfl (by omega) ?_ | refine r_aru8 hG rfl rfl rfl rfl rfl (by omega) ?_ | refine r_aru16 hG rfl rfl rfl rfl rfl (by omega) ?_)
      | (show AOp _ _ ⟨_, .binOp .shr _ _ _ _, _, _, _, _⟩ _ _ _; refine r_shr hG rfl rfl rfl rfl (by omega) ?_)
      | (show AOp _ _ ⟨_, .binOp _ _ _ _ _, _, _, _, _⟩ _ _ _; first | refine r_cmpT hG rfl rfl rfl rfl rfl (by omega) ?_ | refine r_cmpF hG rfl rfl rfl rfl rfl (by omega) ?_ | refine r_strT hG rfl rfl rfl rfl (by first | rfl | assumption) ?_ | refine r_strnF hG rfl rfl rfl rfl (by first | rfl | assumption) ?_ | refine r_strF hG rfl rfl rfl rfl (by assumption) ?_ | refine r_strnT hG rfl rfl rfl rfl (by assumption) ?_ | (refine r_cmp hG rfl rfl rfl rfl rfl (fun h => ?_) (fun h => ?_)) | (first | refine r_str hG rfl rfl rfl rfl (fun h => ?_) (fun h => ?_) | refine r_strn hG rfl rfl rfl rfl (fun h => ?_) (fun h => ?_)) | refine r_beq hG rfl rfl rfl rfl rfl ?_ | refine r_bin' hG rfl rfl rfl ?_)
      | (show AOp _ _ ⟨_, .convert _ _ _, _, _, _, _⟩ _ _ _; first | refine r_tostr hG rfl rfl rfl rfl rfl rfl rfl rfl (by first | exact bytesT_map _ _ | exact bytesT_s _ | rfl) ?_ | refine r_cv8 hG rfl rfl rfl rfl rfl rfl ?_ | refine r_cv16 hG rfl rfl rfl rfl rfl rfl ?_ | refine r_cv_i64 hG rfl rfl rfl rfl rfl (by omega) ?_ | refine r_cv_u64 hG rfl rfl rfl rfl rfl (by omega) ?_ | refine r_cv_u8 hG rfl rfl rfl rfl rfl (by omega) ?_ | refine r_cv_u16 hG rfl rfl rfl rfl rfl (by omega) ?_ | refine r_cvw hG rfl rfl rfl rfl rfl ?_)
      | (show AOp _ _ ⟨_, .pick _ _ _, _, _, _, _⟩ _ _ _; refine r_pick hG rfl rfl rfl ?_)
      | (show AOp _ _ ⟨_, .buildSlice _ _ _, _, _, _, _⟩ _ _ _; first | refine r_mk (sz := 1) hG rfl rfl rfl rfl rfl rfl rfl ?_ | refine r_mk (sz := 2) hG rfl rfl rfl rfl rfl rfl rfl ?_)
      | (show AOp _ _ ⟨_, .call ⟨.builtin .append, _, _⟩, _, _, _, _⟩ _ _ _; first | refine r_app0m (sz := 1) (xs := []) hG rfl rfl rfl rfl rfl rfl rfl ⟨_, rfl⟩ rfl rfl rfl rfl rfl rfl rfl (by first | omega | (simp; omega)) (fun k => ?_) | refine r_appm 0 hG rfl rfl rfl rfl rfl rfl rfl ⟨_, rfl⟩ rfl rfl rfl rfl rfl (by first | omega | (simp only [List.length_append, List.length_cons, List.length_nil]; omega)) (fun k => ?_) | fail)
      | (show AOp _ _ ⟨_, .call ⟨.value _, _, _⟩, _, _, _, _⟩ _ _ _; first | (refine r_owns rfl rfl rfl rfl rfl (by apply clone_b <;> (first | assumption | omega | exact bytesT_map _ _ | exact bytesT_s _ | exact catsT_map _ _ | exact catsT_c _ | rfl | (simp; omega))) (fun k => ?_)) | (have := kk; clear this; refine r_pure rfl rfl rfl rfl rfl (Owns.pure (by apply clone_b <;> (first | assumption | omega | exact bytesT_map _ _ | exact bytesT_s _ | exact catsT_map _ _ | exact catsT_c _ | rfl | (simp; omega)))) ?_) | fail)
      | refine r_q hG rfl rfl rfl ?_))
    | (show AL _ _ _ _ _ _ _ _; first | refine al_s rfl rfl rfl ?_ | (refine al_nil ?_; first | show AW _ _ _ _ _ _ | show ∃ x', _ < _ ∧ _)) | (show AW _ _ (.seq _ _) _ _ _; refine aw_seq' ?_; intro Q1) | (show AW _ _ (.region _ _ false) _ _ _; refine aw_regL' ?_; intro O1) | (show AW _ _ (.cond _ _ _) _ _ _; first | refine aw_if_t rfl ?_ | refine aw_if_f rfl ?_) | (show AW _ _ (.skip) _ _ _; refine aw_skip ?_; first | show AW _ _ _ _ _ _ | show ∃ x', _ < _ ∧ _) | (show AW _ _ (.goto _) _ _ _; refine aw_goto ?_; try dsimp only [thenA, inBlockA, jumpA, noGotoA]) | (show AW _ _ (.ret) _ _ _; refine aw_ret ?_; try dsimp only [thenA, inBlockA, jumpA, noGotoA]) | fail)
    · exact ret_owns 0 (res_tmp rfl res_nil) rfl (by rw [putI, if_neg (by omega), List.append_nil]) rfl
    · exact ret_owns 0 (res_tmp rfl res_nil) rfl (by rw [putI, if_neg (by omega), List.append_nil]) rfl
    · refine aw_label ?_
      show AW _ _ _ _ _ _
      refine aw_forget ?_ (key ⟨by omega, n.toNat, [], k, by omega, rfl⟩)
      exact .cons rfl (.consW rfl (.eq (by simp)) (.consW rfl (.int (by simp; omega)) (.nil _)))

def beV (l : List UInt8) : Nat := l.foldl (fun a x => a * 256 + x.toNat) 0
end Go.Proofs.Ytholeicgmkjadaa
namespace Go.Proofs.Ytholeicgmkjadaa
open Go.Ts
attribute [local irreducible] Go.Ts.AW Go.Ts.AOps Go.Ts.AL Go.Ts.AOp Go.Ts.ACalls Go.Ts.DL
theorem grow_nil {n : Int} (hn : 0 ≤ n ∧ n ≤ 4294967296) : Owns Try.prog 79 [.nilsl, .int .i64 n] 1 [] := by
  intro off
  refine acalls_mk (N := 27) (rs := [.tmp 4]) hG Try.func79 rfl rfl rfl rfl rfl ?_
  repeat' (first
    | ((show AL _ _ _ _ _ _ _ _; refine al_cons rfl ?_); (first
      | (show AOp _ _ ⟨_, .move _, _, _, _, _⟩ _ _ _; refine r_move hG rfl rfl ?_)
      | (show AOp _ _ ⟨_, .assign _, _, _, _, _⟩ _ _ _; refine r_asg hG rfl rfl ?_)
      | (show AOp _ _ ⟨_, .call ⟨.builtin .len, _, _⟩, _, _, _, _⟩ _ _ _; first | refine r_lenm hG rfl rfl rfl rfl ?_ | refine r_len hG rfl rfl rfl rfl rfl ?_)
      | (show AOp _ _ ⟨_, .binOp .sub _ _ _ _, _, _, _, _⟩ _ _ _; first | refine r_ari64 hG rfl rfl rfl rfl rfl (by omega) ?_ | refine r_aru64 hG rfl rfl rfl rfl rfl (by omega) ?_ | refine r_aru8 hG rfl rfl rfl rfl rfl (by omega) ?_ | refine r_aru16 hG rfl rfl rfl rfl rfl (by omega) ?_)
      | (show AOp _ _ ⟨_, .binOp _ _ _ _ _, _, _, _, _⟩ _ _ _; first | refine r_cmpT hG rfl rfl rfl rfl rfl (by omega) ?_ | refine r_cmpF hG rfl rfl rfl rfl rfl (by omega) ?_ | refine r_strT hG rfl rfl rfl rfl (by first | rfl | assumption) ?_ | refine r_strnF hG rfl rfl rfl rfl (by first | rfl | assumption) ?_ | refine r_strF hG rfl rfl rfl rfl (by assumption) ?_ | refine r_strnT hG rfl rfl rfl rfl (by assumption) ?_ | (refine r_cmp hG rfl rfl rfl rfl rfl (fun h => ?_) (fun h => ?_)) | (first | refine r_str hG rfl rfl rfl rfl (fun h => ?_) (fun h => ?_) | refine r_strn hG rfl rfl rfl rfl (fun h => ?_) (fun h => ?_)) | refine r_beq hG rfl rfl rfl rfl rfl ?_ | refine r_bin' hG rfl rfl rfl ?_)
      | (show AOp _ _ ⟨_, .slice _ _ _ _ _, _, _, _, _⟩ _ _ _; first | refine r_sl_lon hG rfl rfl rfl rfl rfl rfl rfl (by omega) ?_ | refine r_sl_hin hG rfl rfl rfl rfl rfl rfl rfl (by omega) ?_ | refine r_sl_lhn hG rfl rfl rfl rfl rfl rfl rfl rfl (by omega) ?_ | refine r_sl_lo hG rfl rfl rfl rfl rfl rfl rfl (by omega) ?_ | refine r_sl_hi hG rfl rfl rfl rfl rfl rfl rfl (by omega) ?_ | refine r_sl_lh hG rfl rfl rfl rfl rfl rfl rfl rfl (by omega) ?_ | refine op_cut0 hG rfl rfl rfl rfl rfl rfl rfl rfl rfl rfl ?_ | refine r_sl hG rfl rfl ?_)
      | (show AOp _ _ ⟨_, .call ⟨.builtin .append, _, _⟩, _, _, _, _⟩ _ _ _; first | refine r_app0m (sz := 1) (xs := []) hG rfl rfl rfl rfl rfl rfl rfl ⟨_, rfl⟩ rfl rfl rfl rfl rfl rfl rfl (by first | omega | (simp; omega)) (fun k => ?_) | refine r_appm 0 hG rfl rfl rfl rfl rfl rfl rfl ⟨_, rfl⟩ rfl rfl rfl rfl rfl (by first | omega | (simp only [List.length_append, List.length_cons, List.length_nil]; omega)) (fun k => ?_) | fail)
      | refine r_q hG rfl rfl rfl ?_))
    | (show AL _ _ _ _ _ _ _ _; first | refine al_s rfl rfl rfl ?_ | (refine al_nil ?_; first | show AW _ _ _ _ _ _ | show ∃ x', _ < _ ∧ _)) | (show AW _ _ (.seq _ _) _ _ _; refine aw_seq' ?_; intro Q1) | (show AW _ _ (.region _ _ false) _ _ _; refine aw_regL' ?_; intro O1) | (show AW _ _ (.cond _ _ _) _ _ _; first | refine aw_if_t rfl ?_ | refine aw_if_f rfl ?_) | (show AW _ _ (.skip) _ _ _; refine aw_skip ?_; first | show AW _ _ _ _ _ _ | show ∃ x', _ < _ ∧ _) | (show AW _ _ (.ret) _ _ _; refine aw_ret ?_; try dsimp only [thenA, inBlockA, jumpA, noGotoA]) | fail)
  · refine al_cons rfl (op_zeros hG rfl rfl rfl rfl rfl rfl rfl rfl rfl rfl rfl (by omega) (fun i cap hc => ?_))
    repeat' (first
    | ((show AL _ _ _ _ _ _ _ _; refine al_cons rfl ?_); (first
      | (show AOp _ _ ⟨_, .move _, _, _, _, _⟩ _ _ _; refine r_move hG rfl rfl ?_)
      | (show AOp _ _ ⟨_, .assign _, _, _, _, _⟩ _ _ _; refine r_asg hG rfl rfl ?_)
      | (show AOp _ _ ⟨_, .call ⟨.builtin .len, _, _⟩, _, _, _, _⟩ _ _ _; first | refine r_lenm hG rfl rfl rfl rfl ?_ | refine r_len hG rfl rfl rfl rfl rfl ?_)
      | (show AOp _ _ ⟨_, .binOp .sub _ _ _ _, _, _, _, _⟩ _ _ _; first | refine r_ari64 hG rfl rfl rfl rfl rfl (by omega) ?_ | refine r_aru64 hG rfl rfl rfl rfl rfl (by omega) ?_ | refine r_aru8 hG rfl rfl rfl rfl rfl (by omega) ?_ | refine r_aru16 hG rfl rfl rfl rfl rfl (by omega) ?_)
      | (show AOp _ _ ⟨_, .binOp _ _ _ _ _, _, _, _, _⟩ _ _ _; first | refine r_cmpT hG rfl rfl rfl rfl rfl (by omega) ?_ | refine r_cmpF hG rfl rfl rfl rfl rfl (by omega) ?_ | refine r_strT hG rfl rfl rfl rfl (by first | rfl | assumption) ?_ | refine r_strnF hG rfl rfl rfl rfl (by first | rfl | assumption) ?_ | refine r_strF hG rfl rfl rfl rfl (by assumption) ?_ | refine r_strnT hG rfl rfl rfl rfl (by assumption) ?_ | (refine r_cmp hG rfl rfl rfl rfl rfl (fun h => ?_) (fun h => ?_)) | (first | refine r_str hG rfl rfl rfl rfl (fun h => ?_) (fun h => ?_) | refine r_strn hG rfl rfl rfl rfl (fun h => ?_) (fun h => ?_)) | refine r_beq hG rfl rfl rfl rfl rfl ?_ | refine r_bin' hG rfl rfl rfl ?_)
      | (show AOp _ _ ⟨_, .slice _ _ _ _ _, _, _, _, _⟩ _ _ _; first | refine r_sl_lon hG rfl rfl rfl rfl rfl rfl rfl (by omega) ?_ | refine r_sl_hin hG rfl rfl rfl rfl rfl rfl rfl (by omega) ?_ | refine r_sl_lhn hG rfl rfl rfl rfl rfl rfl rfl rfl (by omega) ?_ | refine r_sl_lo hG rfl rfl rfl rfl rfl rfl rfl (by omega) ?_ | refine r_sl_hi hG rfl rfl rfl rfl rfl rfl rfl (by omega) ?_ | refine r_sl_lh hG rfl rfl rfl rfl rfl rfl rfl rfl (by omega) ?_ | refine op_cut0 hG rfl rfl rfl rfl rfl rfl rfl rfl rfl rfl ?_ | refine r_sl hG rfl rfl ?_)
      | (show AOp _ _ ⟨_, .call ⟨.builtin .append, _, _⟩, _, _, _, _⟩ _ _ _; first | refine r_app0m (sz := 1) (xs := []) hG rfl rfl rfl rfl rfl rfl rfl ⟨_, rfl⟩ rfl rfl rfl rfl rfl rfl rfl (by first | omega | (simp; omega)) (fun k => ?_) | refine r_appm 0 hG rfl rfl rfl rfl rfl rfl rfl ⟨_, rfl⟩ rfl rfl rfl rfl rfl (by first | omega | (simp only [List.length_append, List.length_cons, List.length_nil]; omega)) (fun k => ?_) | fail)
      | refine r_q hG rfl rfl rfl ?_))
    | (show AL _ _ _ _ _ _ _ _; first | refine al_s rfl rfl rfl ?_ | (refine al_nil ?_; first | show AW _ _ _ _ _ _ | show ∃ x', _ < _ ∧ _)) | (show AW _ _ (.seq _ _) _ _ _; refine aw_seq' ?_; intro Q1) | (show AW _ _ (.region _ _ false) _ _ _; refine aw_regL' ?_; intro O1) | (show AW _ _ (.cond _ _ _) _ _ _; first | refine aw_if_t rfl ?_ | refine aw_if_f rfl ?_) | (show AW _ _ (.skip) _ _ _; refine aw_skip ?_; first | show AW _ _ _ _ _ _ | show ∃ x', _ < _ ∧ _) | fail)
    refine aw_room 0 4 rfl rfl rfl rfl (fun k => ?_)
    exact aw_ret (ret_owns 0 (res_tmp rfl res_nil) rfl rfl rfl)
  · exact ret_owns0 (sz := 1) (res_tmp rfl res_nil) rfl rfl rfl rfl

def lettersOf : List T → Option (List (List UInt8))
  | [] => some []
  | t :: r => match bytesT t, lettersOf r with
    | some b, some s => some (b :: s)
    | _, _ => none
theorem lettersOf_map : ∀ (l : List (List UInt8)), lettersOf (l.map sT) = some l
  | [] => rfl
  | x :: l => by simp only [List.map_cons, lettersOf, bytesT_s, lettersOf_map l]
theorem bytesT_scalar {t : T} {b : List UInt8} (h : bytesT t = some b) : t.scalar = true := by
  unfold bytesT at h
  split at h
  · rfl
  · rfl
  · cases h
theorem lettersOf_wk : ∀ {xs : List T} {l : List (List UInt8)}, lettersOf xs = some l → xs.length = l.length ∧ ∀ (i : Nat) (x : T) (b : List UInt8), xs[i]? = some x → l[i]? = some b → x.scalar = true ∧ Wk x (sT b)
  | [], l, h => by simp [lettersOf] at h; subst h; exact ⟨rfl, fun i x b h => by simp at h⟩
  | t :: xs, l, h => by
    simp only [lettersOf] at h
    split at h
    · rename_i b s hb hs
      injection h with h; subst h
      obtain ⟨h1, h2⟩ := lettersOf_wk hs
      refine ⟨by simp [h1], fun i x c hx hc => ?_⟩
      cases i with
      | zero => simp at hx hc; subst hx; subst hc; exact ⟨bytesT_scalar hb, bytesT_wk hb⟩
      | succ i => exact h2 i x c (by simpa using hx) (by simpa using hc)
    · cases h
/-- What reads as letters. -/
def lettersT : T → Option (List (List UInt8))
  | .nilsl => some []
  | .sl 1 _ xs => lettersOf xs
  | _ => none
/-- Letters. -/
def lT (l : List (List UInt8)) : T := .sl 1 .no (l.map sT)
theorem lettersT_l (l : List (List UInt8)) : lettersT (lT l) = some l := lettersOf_map l
theorem lettersT_wk {x : T} {l : List (List UInt8)} (h : lettersT x = some l) : Wk x (lT l) := by
  unfold lettersT at h
  split at h
  · injection h with h; subst h; exact Wk.nil 1
  · rename_i own xs
    obtain ⟨h1, h2⟩ := lettersOf_wk h
    refine (Wk.own 1 own xs).trans (Wk.list (by simpa using h1) fun i x y hx hy => ?_)
    rw [List.getElem?_map] at hy
    cases hl : l[i]? with
    | none => rw [hl] at hy; cases hy
    | some b =>
      rw [hl] at hy; injection hy with hy; subst hy
      obtain ⟨h3, h4⟩ := h2 i x b hx hl
      exact ⟨h3, rfl, h4⟩
  · cases h
instance : Enc lT 1 := ⟨fun x c h => by simp [lT, T.cells] at h; subst h; rfl, fun x => rfl⟩

def total (bs : List (List UInt8)) : Nat := (bs.map List.length).sum
theorem total_snoc (bs : List (List UInt8)) (b : List UInt8) : total (bs ++ [b]) = total bs + b.length := by simp [total]
theorem total_take_le (bs : List (List UInt8)) (i : Nat) : total (bs.take i) ≤ total bs := by
  have h : total bs = total (bs.take i) + total (bs.drop i) := by
    conv => lhs; rw [← List.take_append_drop i bs]
    simp only [total, List.map_append, List.sum_append]
  omega
theorem flatten_length (bs : List (List UInt8)) : bs.flatten.length = total bs := by simp [total, List.length_flatten]
theorem take_getD {α : Type} [Inhabited α] (l : List α) (i : Nat) (h : i < l.length) : l.take (i + 1) = l.take i ++ [l.getD i default] := by
  rw [List.take_succ_eq_append_getElem h]; simp [List.getElem?_eq_getElem h]

structure CatX (bs : List (List UInt8)) where
  i : Nat
  hi : i ≤ bs.length
structure CatY (bs : List (List UInt8)) where
  i : Nat
  k : Nat
  hi : i ≤ bs.length
theorem concat_b {x : T} {bs : List (List UInt8)} (hx : lettersT x = some bs) (hb : total bs ≤ 4294967200) (hn : bs.length ≤ 4294967296) :
    Owns Try.prog 56 [x] 1 (bs.flatten.map bT) := by
  refine Owns.weak (us := [lT bs]) ?_ (wk1 (lettersT_wk hx))
  intro off
  refine acalls_mk (N := 36) (rs := [.tmp 2]) hG Try.func56 rfl rfl rfl rfl rfl ?_
  repeat' (first
    | ((show AL _ _ _ _ _ _ _ _; refine al_cons rfl ?_); (first
      | (show AOp _ _ ⟨_, .move _, _, _, _, _⟩ _ _ _; refine r_move hG rfl rfl ?_)
      | (show AOp _ _ ⟨_, .assign _, _, _, _, _⟩ _ _ _; refine r_asg hG rfl rfl ?_)
      | (show AOp _ _ ⟨_, .call ⟨.builtin .len, _, _⟩, _, _, _, _⟩ _ _ _; first | refine r_lenm hG rfl rfl rfl rfl ?_ | refine r_len hG rfl rfl rfl rfl rfl ?_)
      | (show AOp _ _ ⟨_, .binOp .add _ _ _ _, _, _, _, _⟩ _ _ _; first | refine r_ari64 hG rfl rfl rfl rfl rfl (by omega) ?_ | refine r_aru64 hG rfl rfl rfl rfl rfl (by omega) ?_ | refine r_aru8 hG rfl rfl rfl rfl rfl (by omega) ?_ | refine r_aru16 hG rfl rfl rfl rfl rfl (by omega) ?_)
      | (show AOp _ _ ⟨_, .binOp _ _ _ _ _, _, _, _, _⟩ _ _ _; first | refine r_cmpT hG rfl rfl rfl rfl rfl (by omega) ?_ | refine r_cmpF hG rfl rfl rfl rfl rfl (by omega) ?_ | refine r_strT hG rfl rfl rfl rfl (by first | rfl | assumption) ?_ | refine r_strnF hG rfl rfl rfl rfl (by first | rfl | assumption) ?_ | refine r_strF hG rfl rfl rfl rfl (by assumption) ?_ | refine r_strnT hG rfl rfl rfl rfl (by assumption) ?_ | (refine r_cmp hG rfl rfl rfl rfl rfl (fun h => ?_) (fun h => ?_)) | (first | refine r_str hG rfl rfl rfl rfl (fun h => ?_) (fun h => ?_) | refine r_strn hG rfl rfl rfl rfl (fun h => ?_) (fun h => ?_)) | refine r_beq hG rfl rfl rfl rfl rfl ?_ | refine r_bin' hG rfl rfl rfl ?_)
      | (show AOp _ _ ⟨_, .load _ _, _, _, _, _⟩ _ _ _; first | refine r_ldro hG rfl rfl rfl ?_ | refine r_ld 0 hG rfl rfl rfl rfl ?_ | refine r_ld 1 hG rfl rfl rfl rfl ?_ | refine r_ld 2 hG rfl rfl rfl rfl ?_ | refine r_ld 3 hG rfl rfl rfl rfl ?_)
      | (show AOp _ _ ⟨_, .indexAddr _ _ _, _, _, _, _⟩ _ _ _; first | refine r_idx0 hG rfl rfl rfl rfl rfl rfl rfl ?_ | refine r_idxn hG rfl rfl rfl rfl rfl rfl rfl (by omega) ?_ | refine r_idxm hG rfl rfl rfl rfl rfl rfl rfl (by omega) ?_ | refine r_idx hG rfl rfl ?_)
      | (show AOp _ _ ⟨_, .call ⟨.builtin .append, _, _⟩, _, _, _, _⟩ _ _ _; first | refine r_app0m (sz := 1) (xs := []) hG rfl rfl rfl rfl rfl rfl rfl ⟨_, rfl⟩ rfl rfl rfl rfl rfl rfl rfl (by first | omega | (simp; omega)) (fun k => ?_) | refine r_appm 0 hG rfl rfl rfl rfl rfl rfl rfl ⟨_, rfl⟩ rfl rfl rfl rfl rfl (by first | omega | (simp only [List.length_append, List.length_cons, List.length_nil]; omega)) (fun k => ?_) | fail)
      | refine r_q hG rfl rfl rfl ?_))
    | (show AL _ _ _ _ _ _ _ _; first | refine al_s rfl rfl rfl ?_ | (refine al_nil ?_; first | show AW _ _ _ _ _ _ | show ∃ x', _ < _ ∧ _)) | (show AW _ _ (.seq _ _) _ _ _; refine aw_seq' ?_; intro Q1) | (show AW _ _ (.region _ _ false) _ _ _; refine aw_regL' ?_; intro O1) | (show AW _ _ (.cond _ _ _) _ _ _; first | refine aw_if_t rfl ?_ | refine aw_if_f rfl ?_) | (show AW _ _ (.skip) _ _ _; refine aw_skip ?_; first | show AW _ _ _ _ _ _ | show ∃ x', _ < _ ∧ _) | (show AW _ _ (.block _ _) _ _ _; refine aw_block' ?_; intro Q1) | (show AW _ _ (.exit _) _ _ _; refine aw_exit ?_; first | show AW _ _ _ _ _ _ | show ∃ x', _ < _ ∧ _) | (show AW _ _ (.ret) _ _ _; refine aw_ret ?_; try dsimp only [thenA, inBlockA, jumpA, noGotoA]) | fail)
  refine aw_loop (X := CatX bs) (fun x => [(0, lT bs), (9, lT bs), (10, .int .i64 bs.length), (11, .int .i64 x.i), (3, .int .i64 (total (bs.take x.i)))]) (fun x => ⟨[], [], off, none⟩) (fun x => bs.length - x.i) ⟨0, Nat.zero_le _⟩ ?_ (.refl _) ?_
  · exact .cons rfl (.cons rfl (.consW rfl (.int (by simp)) (.consW rfl (.int rfl) (.consW rfl (.int (by simp [total])) (.nil _)))))
  rintro ⟨i, hi⟩
  dsimp only
  have hle := total_take_le bs i
  by_cases hib : i < bs.length
  · have htk := take_getD bs i hib
    have hle2 := total_take_le bs (i + 1)
    rw [htk, total_snoc] at hle2
    repeat' (first
    | ((show AL _ _ _ _ _ _ _ _; refine al_cons rfl ?_); (first
      | (show AOp _ _ ⟨_, .move _, _, _, _, _⟩ _ _ _; refine r_move hG rfl rfl ?_)
      | (show AOp _ _ ⟨_, .assign _, _, _, _, _⟩ _ _ _; refine r_asg hG rfl rfl ?_)
      | (show AOp _ _ ⟨_, .call ⟨.builtin .len, _, _⟩, _, _, _, _⟩ _ _ _; first | refine r_lenm hG rfl rfl rfl rfl ?_ | refine r_len hG rfl rfl rfl rfl rfl ?_)
      | (show AOp _ _ ⟨_, .binOp .add _ _ _ _, _, _, _, _⟩ _ _ _; first | refine r_ari64 hG rfl rfl rfl rfl rfl (by omega) ?_ | refine r_aru64 hG rfl rfl rfl rfl rfl (by omega) ?_ | refine r_aru8 hG rfl rfl rfl rfl rfl (by omega) ?_ | refine r_aru16 hG rfl rfl rfl rfl rfl (by omega) ?_)
      | (show AOp _ _ ⟨_, .binOp _ _ _ _ _, _, _, _, _⟩ _ _ _; first | refine r_cmpT hG rfl rfl rfl rfl rfl (by omega) ?_ | refine r_cmpF hG rfl rfl rfl rfl rfl (by omega) ?_ | refine r_strT hG rfl rfl rfl rfl (by first | rfl | assumption) ?_ | refine r_strnF hG rfl rfl rfl rfl (by first | rfl | assumption) ?_ | refine r_strF hG rfl rfl rfl rfl (by assumption) ?_ | refine r_strnT hG rfl rfl rfl rfl (by assumption) ?_ | (refine r_cmp hG rfl rfl rfl rfl rfl (fun h => ?_) (fun h => ?_)) | (first | refine r_str hG rfl rfl rfl rfl (fun h => ?_) (fun h => ?_) | refine r_strn hG rfl rfl rfl rfl (fun h => ?_) (fun h => ?_)) | refine r_beq hG rfl rfl rfl rfl rfl ?_ | refine r_bin' hG rfl rfl rfl ?_)
      | (show AOp _ _ ⟨_, .load _ _, _, _, _, _⟩ _ _ _; first | refine r_ldro hG rfl rfl rfl ?_ | refine r_ld 0 hG rfl rfl rfl rfl ?_ | refine r_ld 1 hG rfl rfl rfl rfl ?_ | refine r_ld 2 hG rfl rfl rfl rfl ?_ | refine r_ld 3 hG rfl rfl rfl rfl ?_)
      | (show AOp _ _ ⟨_, .indexAddr _ _ _, _, _, _, _⟩ _ _ _; first | refine r_idx0 hG rfl rfl rfl rfl rfl rfl rfl ?_ | refine r_idxn hG rfl rfl rfl rfl rfl rfl rfl (by omega) ?_ | refine r_idxm hG rfl rfl rfl rfl rfl rfl rfl (by omega) ?_ | refine r_idx hG rfl rfl ?_)
      | (show AOp _ _ ⟨_, .call ⟨.builtin .append, _, _⟩, _, _, _, _⟩ _ _ _; first | refine r_app0m (sz := 1) (xs := []) hG rfl rfl rfl rfl rfl rfl rfl ⟨_, rfl⟩ rfl rfl rfl rfl rfl rfl rfl (by first | omega | (simp; omega)) (fun k => ?_) | refine r_appm 0 hG rfl rfl rfl rfl rfl rfl rfl ⟨_, rfl⟩ rfl rfl rfl rfl rfl (by first | omega | (simp only [List.length_append, List.length_cons, List.length_nil]; omega)) (fun k => ?_) | fail)
      | refine r_q hG rfl rfl rfl ?_))
    | (show AL _ _ _ _ _ _ _ _; first | refine al_s rfl rfl rfl ?_ | (refine al_nil ?_; first | show AW _ _ _ _ _ _ | show ∃ x', _ < _ ∧ _)) | (show AW _ _ (.seq _ _) _ _ _; refine aw_seq' ?_; intro Q1) | (show AW _ _ (.region _ _ false) _ _ _; refine aw_regL' ?_; intro O1) | (show AW _ _ (.cond _ _ _) _ _ _; first | refine aw_if_t rfl ?_ | refine aw_if_f rfl ?_) | (show AW _ _ (.skip) _ _ _; refine aw_skip ?_; first | show AW _ _ _ _ _ _ | show ∃ x', _ < _ ∧ _) | (show AW _ _ (.block _ _) _ _ _; refine aw_block' ?_; intro Q1) | (show AW _ _ (.exit _) _ _ _; refine aw_exit ?_; first | show AW _ _ _ _ _ _ | show ∃ x', _ < _ ∧ _) | (show AW _ _ (.ret) _ _ _; refine aw_ret ?_; try dsimp only [thenA, inBlockA, jumpA, noGotoA]) | fail)
    refine ⟨⟨i + 1, by omega⟩, by dsimp only; omega, ?_, .refl _⟩
    refine .cons rfl (.cons rfl (.cons rfl (.consW rfl (.int (by simp)) (.consW rfl (.int ?_) (.nil _)))))
    show _ = ((total (bs.take (i + 1)) : Nat) : Int)
    rw [htk, total_snoc]; simp
  · obtain rfl : i = bs.length := by omega
    rw [List.take_length] at *
    repeat' (first
    | ((show AL _ _ _ _ _ _ _ _; refine al_cons rfl ?_); (first
      | (show AOp _ _ ⟨_, .move _, _, _, _, _⟩ _ _ _; refine r_move hG rfl rfl ?_)
      | (show AOp _ _ ⟨_, .assign _, _, _, _, _⟩ _ _ _; refine r_asg hG rfl rfl ?_)
      | (show AOp _ _ ⟨_, .call ⟨.builtin .len, _, _⟩, _, _, _, _⟩ _ _ _; first | refine r_lenm hG rfl rfl rfl rfl ?_ | refine r_len hG rfl rfl rfl rfl rfl ?_)
      | (show AOp _ _ ⟨_, .binOp .add _ _ _ _, _, _, _, _⟩ _ _ _; first | refine r_ari64 hG rfl rfl rfl rfl rfl (by omega) ?_ | refine r_aru64 hG rfl rfl rfl rfl rfl (by omega) ?_ | refine r_aru8 hG rfl rfl rfl rfl rfl (by omega) ?_ | refine r_aru16 hG rfl rfl rfl rfl rfl (by omega) ?_)
      | (show AOp _ _ ⟨_, .binOp _ _ _ _ _, _, _, _, _⟩ _ _ _; first | refine r_cmpT hG rfl rfl rfl rfl rfl (by omega) ?_ | refine r_cmpF hG rfl rfl rfl rfl rfl (by omega) ?_ | refine r_strT hG rfl rfl rfl rfl (by first | rfl | assumption) ?_ | refine r_strnF hG rfl rfl rfl rfl (by first | rfl | assumption) ?_ | refine r_strF hG rfl rfl rfl rfl (by assumption) ?_ | refine r_strnT hG rfl rfl rfl rfl (by assumption) ?_ | (refine r_cmp hG rfl rfl rfl rfl rfl (fun h => ?_) (fun h => ?_)) | (first | refine r_str hG rfl rfl rfl rfl (fun h => ?_) (fun h => ?_) | refine r_strn hG rfl rfl rfl rfl (fun h => ?_) (fun h => ?_)) | refine r_beq hG rfl rfl rfl rfl rfl ?_ | refine r_bin' hG rfl rfl rfl ?_)
      | (show AOp _ _ ⟨_, .load _ _, _, _, _, _⟩ _ _ _; first | refine r_ldro hG rfl rfl rfl ?_ | refine r_ld 0 hG rfl rfl rfl rfl ?_ | refine r_ld 1 hG rfl rfl rfl rfl ?_ | refine r_ld 2 hG rfl rfl rfl rfl ?_ | refine r_ld 3 hG rfl rfl rfl rfl ?_)
      | (show AOp _ _ ⟨_, .indexAddr _ _ _, _, _, _, _⟩ _ _ _; first | refine r_idx0 hG rfl rfl rfl rfl rfl rfl rfl ?_ | refine r_idxn hG rfl rfl rfl rfl rfl rfl rfl (by omega) ?_ | refine r_idxm hG rfl rfl rfl rfl rfl rfl rfl (by omega) ?_ | refine r_idx hG rfl rfl ?_)
      | (show AOp _ _ ⟨_, .call ⟨.builtin .append, _, _⟩, _, _, _, _⟩ _ _ _; first | refine r_app0m (sz := 1) (xs := []) hG rfl rfl rfl rfl rfl rfl rfl ⟨_, rfl⟩ rfl rfl rfl rfl rfl rfl rfl (by first | omega | (simp; omega)) (fun k => ?_) | refine r_appm 0 hG rfl rfl rfl rfl rfl rfl rfl ⟨_, rfl⟩ rfl rfl rfl rfl rfl (by first | omega | (simp only [List.length_append, List.length_cons, List.length_nil]; omega)) (fun k => ?_) | fail)
      | (show AOp _ _ ⟨_, .call ⟨.value _, _, _⟩, _, _, _, _⟩ _ _ _; first | (refine r_owns rfl rfl rfl rfl rfl (by apply grow_nil <;> (first | assumption | omega | exact bytesT_map _ _ | exact bytesT_s _ | exact catsT_map _ _ | exact catsT_c _ | rfl | (simp; omega))) (fun k => ?_)) | (have := kk; clear this; refine r_pure rfl rfl rfl rfl rfl (Owns.pure (by apply grow_nil <;> (first | assumption | omega | exact bytesT_map _ _ | exact bytesT_s _ | exact catsT_map _ _ | exact catsT_c _ | rfl | (simp; omega)))) ?_) | fail)
      | refine r_q hG rfl rfl rfl ?_))
    | (show AL _ _ _ _ _ _ _ _; first | refine al_s rfl rfl rfl ?_ | (refine al_nil ?_; first | show AW _ _ _ _ _ _ | show ∃ x', _ < _ ∧ _)) | (show AW _ _ (.seq _ _) _ _ _; refine aw_seq' ?_; intro Q1) | (show AW _ _ (.region _ _ false) _ _ _; refine aw_regL' ?_; intro O1) | (show AW _ _ (.cond _ _ _) _ _ _; first | refine aw_if_t rfl ?_ | refine aw_if_f rfl ?_) | (show AW _ _ (.skip) _ _ _; refine aw_skip ?_; first | show AW _ _ _ _ _ _ | show ∃ x', _ < _ ∧ _) | (show AW _ _ (.block _ _) _ _ _; refine aw_block' ?_; intro Q1) | (show AW _ _ (.exit _) _ _ _; refine aw_exit ?_; first | show AW _ _ _ _ _ _ | show ∃ x', _ < _ ∧ _) | (show AW _ _ (.ret) _ _ _; refine aw_ret ?_; try dsimp only [thenA, inBlockA, jumpA, noGotoA]) | fail)
    refine aw_loop (X := CatY bs) (fun x => [(25, lT bs), (26, .int .i64 bs.length), (27, .int .i64 x.i), (6, .sl 1 (.tok x.k) ((bs.take x.i).flatten.map bT))]) (fun x => ⟨[], [x.k], off, none⟩) (fun x => bs.length - x.i) ⟨0, k, Nat.zero_le _⟩ ?_ (.refl _) ?_
    · exact .cons rfl (.consW rfl (.int (by simp)) (.consW rfl (.int rfl) (.consW rfl (.eq (by simp)) (.nil _))))
    rintro ⟨i, k, hi⟩
    dsimp only
    have hle := total_take_le bs i
    have hfl := flatten_length (bs.take i)
    by_cases hib : i < bs.length
    · have htk := take_getD bs i hib
      have hle2 := total_take_le bs (i + 1)
      rw [htk, total_snoc] at hle2
      repeat' (first
    | ((show AL _ _ _ _ _ _ _ _; refine al_cons rfl ?_); (first
      | (show AOp _ _ ⟨_, .move _, _, _, _, _⟩ _ _ _; refine r_move hG rfl rfl ?_)
      | (show AOp _ _ ⟨_, .assign _, _, _, _, _⟩ _ _ _; refine r_asg hG rfl rfl ?_)
      | (show AOp _ _ ⟨_, .call ⟨.builtin .len, _, _⟩, _, _, _, _⟩ _ _ _; first | refine r_lenm hG rfl rfl rfl rfl ?_ | refine r_len hG rfl rfl rfl rfl rfl ?_)
      | (show AOp _ _ ⟨_, .binOp .add _ _ _ _, _, _, _, _⟩ _ _ _; first | refine r_ari64 hG rfl rfl rfl rfl rfl (by omega) ?_ | refine r_aru64 hG rfl rfl rfl rfl rfl (by omega) ?_ | refine r_aru8 hG rfl rfl rfl rfl rfl (by omega) ?_ | refine r_aru16 hG rfl rfl rfl rfl rfl (by omega) ?_)
      | (show AOp _ _ ⟨_, .binOp _ _ _ _ _, _, _, _, _⟩ _ _ _; first | refine r_cmpT hG rfl rfl rfl rfl rfl (by omega) ?_ | refine r_cmpF hG rfl rfl rfl rfl rfl (by omega) ?_ | refine r_strT hG rfl rfl rfl rfl (by first | rfl | assumption) ?_ | refine r_strnF hG rfl rfl rfl rfl (by first | rfl | assumption) ?_ | refine r_strF hG rfl rfl rfl rfl (by assumption) ?_ | refine r_strnT hG rfl rfl rfl rfl (by assumption) ?_ | (refine r_cmp hG rfl rfl rfl rfl rfl (fun h => ?_) (fun h => ?_)) | (first | refine r_str hG rfl rfl rfl rfl (fun h => ?_) (fun h => ?_) | refine r_strn hG rfl rfl rfl rfl (fun h => ?_) (fun h => ?_)) | refine r_beq hG rfl rfl rfl rfl rfl ?_ | refine r_bin' hG rfl rfl rfl ?_)
      | (show AOp _ _ ⟨_, .load _ _, _, _, _, _⟩ _ _ _; first | refine r_ldro hG rfl rfl rfl ?_ | refine r_ld 0 hG rfl rfl rfl rfl ?_ | refine r_ld 1 hG rfl rfl rfl rfl ?_ | refine r_ld 2 hG rfl rfl rfl rfl ?_ | refine r_ld 3 hG rfl rfl rfl rfl ?_)
      | (show AOp _ _ ⟨_, .indexAddr _ _ _, _, _, _, _⟩ _ _ _; first | refine r_idx0 hG rfl rfl rfl rfl rfl rfl rfl ?_ | refine r_idxn hG rfl rfl rfl rfl rfl rfl rfl (by omega) ?_ | refine r_idxm hG rfl rfl rfl rfl rfl rfl rfl (by omega) ?_ | refine r_idx hG rfl rfl ?_)
      | (show AOp _ _ ⟨_, .call ⟨.builtin .append, _, _⟩, _, _, _, _⟩ _ _ _; first | refine r_app0m (sz := 1) (xs := []) hG rfl rfl rfl rfl rfl rfl rfl ⟨_, rfl⟩ rfl rfl rfl rfl rfl rfl rfl (by first | omega | (simp; omega)) (fun k => ?_) | refine r_appm 0 hG rfl rfl rfl rfl rfl rfl rfl ⟨_, rfl⟩ rfl rfl rfl rfl rfl (by first | omega | (simp only [List.length_append, List.length_cons, List.length_nil]; omega)) (fun k => ?_) | fail)
      | refine r_q hG rfl rfl rfl ?_))
    | (show AL _ _ _ _ _ _ _ _; first | refine al_s rfl rfl rfl ?_ | (refine al_nil ?_; first | show AW _ _ _ _ _ _ | show ∃ x', _ < _ ∧ _)) | (show AW _ _ (.seq _ _) _ _ _; refine aw_seq' ?_; intro Q1) | (show AW _ _ (.region _ _ false) _ _ _; refine aw_regL' ?_; intro O1) | (show AW _ _ (.cond _ _ _) _ _ _; first | refine aw_if_t rfl ?_ | refine aw_if_f rfl ?_) | (show AW _ _ (.skip) _ _ _; refine aw_skip ?_; first | show AW _ _ _ _ _ _ | show ∃ x', _ < _ ∧ _) | (show AW _ _ (.block _ _) _ _ _; refine aw_block' ?_; intro Q1) | (show AW _ _ (.exit _) _ _ _; refine aw_exit ?_; first | show AW _ _ _ _ _ _ | show ∃ x', _ < _ ∧ _) | (show AW _ _ (.ret) _ _ _; refine aw_ret ?_; try dsimp only [thenA, inBlockA, jumpA, noGotoA]) | fail)
      refine ⟨⟨i + 1, _, by omega⟩, by dsimp only; omega, ?_, .refl _⟩
      refine .cons rfl (.cons rfl (.consW rfl (.int (by simp)) (.consW rfl (.eq ?_) (.nil _))))
      rw [htk, List.flatten_append]; simp
    · obtain rfl : i = bs.length := by omega
      rw [List.take_length] at *
      repeat' (first
    | ((show AL _ _ _ _ _ _ _ _; refine al_cons rfl ?_); (first
      | (show AOp _ _ ⟨_, .move _, _, _, _, _⟩ _ _ _; refine r_move hG rfl rfl ?_)
      | (show AOp _ _ ⟨_, .assign _, _, _, _, _⟩ _ _ _; refine r_asg hG rfl rfl ?_)
      | (show AOp _ _ ⟨_, .call ⟨.builtin .len, _, _⟩, _, _, _, _⟩ _ _ _; first | refine r_lenm hG rfl rfl rfl rfl ?_ | refine r_len hG rfl rfl rfl rfl rfl ?_)
      | (show AOp _ _ ⟨_, .binOp .add _ _ _ _, _, _, _, _⟩ _ _ _; first | refine r_ari64 hG rfl rfl rfl rfl rfl (by omega) ?_ | refine r_aru64 hG rfl rfl rfl rfl rfl (by omega) ?_ | refine r_aru8 hG rfl rfl rfl rfl rfl (by omega) ?_ | refine r_aru16 hG rfl rfl rfl rfl rfl (by omega) ?_)
      | (show AOp _ _ ⟨_, .binOp _ _ _ _ _, _, _, _, _⟩ _ _ _; first | refine r_cmpT hG rfl rfl rfl rfl rfl (by omega) ?_ | refine r_cmpF hG rfl rfl rfl rfl rfl (by omega) ?_ | refine r_strT hG rfl rfl rfl rfl (by first | rfl | assumption) ?_ | refine r_strnF hG rfl rfl rfl rfl (by first | rfl | assumption) ?_ | refine r_strF hG rfl rfl rfl rfl (by assumption) ?_ | refine r_strnT hG rfl rfl rfl rfl (by assumption) ?_ | (refine r_cmp hG rfl rfl rfl rfl rfl (fun h => ?_) (fun h => ?_)) | (first | refine r_str hG rfl rfl rfl rfl (fun h => ?_) (fun h => ?_) | refine r_strn hG rfl rfl rfl rfl (fun h => ?_) (fun h => ?_)) | refine r_beq hG rfl rfl rfl rfl rfl ?_ | refine r_bin' hG rfl rfl rfl ?_)
      | (show AOp _ _ ⟨_, .load _ _, _, _, _, _⟩ _ _ _; first | refine r_ldro hG rfl rfl rfl ?_ | refine r_ld 0 hG rfl rfl rfl rfl ?_ | refine r_ld 1 hG rfl rfl rfl rfl ?_ | refine r_ld 2 hG rfl rfl rfl rfl ?_ | refine r_ld 3 hG rfl rfl rfl rfl ?_)
      | (show AOp _ _ ⟨_, .indexAddr _ _ _, _, _, _, _⟩ _ _ _; first | refine r_idx0 hG rfl rfl rfl rfl rfl rfl rfl ?_ | refine r_idxn hG rfl rfl rfl rfl rfl rfl rfl (by omega) ?_ | refine r_idxm hG rfl rfl rfl rfl rfl rfl rfl (by omega) ?_ | refine r_idx hG rfl rfl ?_)
      | (show AOp _ _ ⟨_, .call ⟨.builtin .append, _, _⟩, _, _, _, _⟩ _ _ _; first | refine r_app0m (sz := 1) (xs := []) hG rfl rfl rfl rfl rfl rfl rfl ⟨_, rfl⟩ rfl rfl rfl rfl rfl rfl rfl (by first | omega | (simp; omega)) (fun k => ?_) | refine r_appm 0 hG rfl rfl rfl rfl rfl rfl rfl ⟨_, rfl⟩ rfl rfl rfl rfl rfl (by first | omega | (simp only [List.length_append, List.length_cons, List.length_nil]; omega)) (fun k => ?_) | fail)
      | refine r_q hG rfl rfl rfl ?_))
    | (show AL _ _ _ _ _ _ _ _; first | refine al_s rfl rfl rfl ?_ | (refine al_nil ?_; first | show AW _ _ _ _ _ _ | show ∃ x', _ < _ ∧ _)) | (show AW _ _ (.seq _ _) _ _ _; refine aw_seq' ?_; intro Q1) | (show AW _ _ (.region _ _ false) _ _ _; refine aw_regL' ?_; intro O1) | (show AW _ _ (.cond _ _ _) _ _ _; first | refine aw_if_t rfl ?_ | refine aw_if_f rfl ?_) | (show AW _ _ (.skip) _ _ _; refine aw_skip ?_; first | show AW _ _ _ _ _ _ | show ∃ x', _ < _ ∧ _) | (show AW _ _ (.block _ _) _ _ _; refine aw_block' ?_; intro Q1) | (show AW _ _ (.exit _) _ _ _; refine aw_exit ?_; first | show AW _ _ _ _ _ _ | show ∃ x', _ < _ ∧ _) | (show AW _ _ (.ret) _ _ _; refine aw_ret ?_; try dsimp only [thenA, inBlockA, jumpA, noGotoA]) | fail)
      exact ret_owns 0 (res_tmp rfl res_nil) rfl rfl rfl

def putBs (b s : List UInt8) : List UInt8 := b ++ putI s.length 2 ++ s
theorem num_PutBytes {x y : T} {b s : List UInt8} (hx : bytesT x = some b) (hy : bytesT y = some s) (hl : b.length ≤ 4294880000) (hs : s.length ≤ 70000) :
    Owns Try.prog 33 [x, y] 1 ((putBs b s).map bT) := by
  refine Owns.weak (us := [sT b, sT s]) ?_ (wk2 (bytesT_wk hx) (bytesT_wk hy))
  intro off
  refine acalls_mk (N := 13) (rs := [.tmp 4]) hG Try.func33 rfl rfl rfl rfl rfl ?_
  have hpl := putI_le s.length 2
  repeat' (first
    | ((show AL _ _ _ _ _ _ _ _; refine al_cons rfl ?_); (first
      | (show AOp _ _ ⟨_, .move _, _, _, _, _⟩ _ _ _; refine r_move hG rfl rfl ?_)
      | (show AOp _ _ ⟨_, .assign _, _, _, _, _⟩ _ _ _; refine r_asg hG rfl rfl ?_)
      | (show AOp _ _ ⟨_, .call ⟨.builtin .len, _, _⟩, _, _, _, _⟩ _ _ _; first | refine r_lenm hG rfl rfl rfl rfl ?_ | refine r_len hG rfl rfl rfl rfl rfl ?_)
      | (show AOp _ _ ⟨_, .convert _ _ _, _, _, _, _⟩ _ _ _; first | refine r_tostr hG rfl rfl rfl rfl rfl rfl rfl rfl (by first | exact bytesT_map _ _ | exact bytesT_s _ | rfl) ?_ | refine r_cv8 hG rfl rfl rfl rfl rfl rfl ?_ | refine r_cv16 hG rfl rfl rfl rfl rfl rfl ?_ | refine r_cv_i64 hG rfl rfl rfl rfl rfl (by omega) ?_ | refine r_cv_u64 hG rfl rfl rfl rfl rfl (by omega) ?_ | refine r_cv_u8 hG rfl rfl rfl rfl rfl (by omega) ?_ | refine r_cv_u16 hG rfl rfl rfl rfl rfl (by omega) ?_ | refine r_cvw hG rfl rfl rfl rfl rfl ?_)
      | (show AOp _ _ ⟨_, .buildSlice _ _ _, _, _, _, _⟩ _ _ _; first | refine r_mk (sz := 1) hG rfl rfl rfl rfl rfl rfl rfl ?_ | refine r_mk (sz := 2) hG rfl rfl rfl rfl rfl rfl rfl ?_)
      | (show AOp _ _ ⟨_, .call ⟨.value _, _, _⟩, _, _, _, _⟩ _ _ _; first | (refine r_owns rfl rfl rfl rfl rfl (by apply num_Put <;> (first | assumption | omega | exact bytesT_map _ _ | exact bytesT_s _ | exact catsT_map _ _ | exact catsT_c _ | rfl | (simp; omega))) (fun k => ?_)) | (have := kk; clear this; refine r_pure rfl rfl rfl rfl rfl (Owns.pure (by apply num_Put <;> (first | assumption | omega | exact bytesT_map _ _ | exact bytesT_s _ | exact catsT_map _ _ | exact catsT_c _ | rfl | (simp; omega)))) ?_) | fail)
      | refine r_q hG rfl rfl rfl ?_))
    | (show AL _ _ _ _ _ _ _ _; first | refine al_s rfl rfl rfl ?_ | (refine al_nil ?_; first | show AW _ _ _ _ _ _ | show ∃ x', _ < _ ∧ _)) | (show AW _ _ (.seq _ _) _ _ _; refine aw_seq' ?_; intro Q1) | (show AW _ _ (.region _ _ false) _ _ _; refine aw_regL' ?_; intro O1) | (show AW _ _ (.ret) _ _ _; refine aw_ret ?_; try dsimp only [thenA, inBlockA, jumpA, noGotoA]) | fail)
  refine al_cons rfl (r_owns rfl rfl rfl rfl rfl (concat_b (bs := [b ++ putI s.length 2, s]) ?_ ?_ ?_) (fun k => ?_))
  · simp only [lettersT, lettersOf, bytesT_map, bytesT_s]
  · simp [total]; omega
  · simp
  repeat' (first
    | ((show AL _ _ _ _ _ _ _ _; refine al_cons rfl ?_); (first
      | (show AOp _ _ ⟨_, .move _, _, _, _, _⟩ _ _ _; refine r_move hG rfl rfl ?_)
      | (show AOp _ _ ⟨_, .assign _, _, _, _, _⟩ _ _ _; refine r_asg hG rfl rfl ?_)
      | (show AOp _ _ ⟨_, .call ⟨.builtin .len, _, _⟩, _, _, _, _⟩ _ _ _; first | refine r_lenm hG rfl rfl rfl rfl ?_ | refine r_len hG rfl rfl rfl rfl rfl ?_)
      | (show AOp _ _ ⟨_, .convert _ _ _, _, _, _, _⟩ _ _ _; first | refine r_tostr hG rfl rfl rfl rfl rfl rfl rfl rfl (by first | exact bytesT_map _ _ | exact bytesT_s _ | rfl) ?_ | refine r_cv8 hG rfl rfl rfl rfl rfl rfl ?_ | refine r_cv16 hG rfl rfl rfl rfl rfl rfl ?_ | refine r_cv_i64 hG rfl rfl rfl rfl rfl (by omega) ?_ | refine r_cv_u64 hG rfl rfl rfl rfl rfl (by omega) ?_ | refine r_cv_u8 hG rfl rfl rfl rfl rfl (by omega) ?_ | refine r_cv_u16 hG rfl rfl rfl rfl rfl (by omega) ?_ | refine r_cvw hG rfl rfl rfl rfl rfl ?_)
      | (show AOp _ _ ⟨_, .buildSlice _ _ _, _, _, _, _⟩ _ _ _; first | refine r_mk (sz := 1) hG rfl rfl rfl rfl rfl rfl rfl ?_ | refine r_mk (sz := 2) hG rfl rfl rfl rfl rfl rfl rfl ?_)
      | refine r_q hG rfl rfl rfl ?_))
    | (show AL _ _ _ _ _ _ _ _; first | refine al_s rfl rfl rfl ?_ | (refine al_nil ?_; first | show AW _ _ _ _ _ _ | show ∃ x', _ < _ ∧ _)) | (show AW _ _ (.seq _ _) _ _ _; refine aw_seq' ?_; intro Q1) | (show AW _ _ (.region _ _ false) _ _ _; refine aw_regL' ?_; intro O1) | (show AW _ _ (.ret) _ _ _; refine aw_ret ?_; try dsimp only [thenA, inBlockA, jumpA, noGotoA]) | fail)
  exact ret_owns 0 (res_tmp rfl res_nil) rfl (by simp [putBs]) rfl
end Go.Proofs.Ytholeicgmkjadaa
namespace Go.Proofs.Ytholeicgmkjadaa
open Go.Ts
attribute [local irreducible] Go.Ts.AW Go.Ts.AOps Go.Ts.AL Go.Ts.AOp Go.Ts.ACalls Go.Ts.DL
def takeBE (b : List UInt8) : List UInt8 × Nat × Int :=
  if b.length < 2 then ([], 0, 3) else if b.length - 2 < beV (b.take 2) then ([], 0, 3) else ((b.take (2 + beV (b.take 2))).drop 2, 2 + beV (b.take 2), 0)
structure RefX (n : Nat) where
  i : Nat
  k : Nat
  hi : i ≤ n
theorem be_get (v : Nat) : ∀ (n i : Nat), i < n → (be v n)[i]? = some (UInt8.ofNat (v / 2 ^ (8 * (n - 1 - i))))
  | 0, i, h => by omega
  | n + 1, 0, h => by simp [be]
  | n + 1, i + 1, h => by
    simp only [be, List.getElem?_cons_succ]
    rw [be_get v n i (by omega)]
    congr 4; omega
theorem ref_Put {x : T} {b : List UInt8} {v n : Int} (hx : bytesT x = some b) (hl : b.length ≤ 4294967000) (hv : 0 ≤ v) :
    Owns Try.prog 38 [x, .int .u64 v, .int .i64 n] 1 ((b ++ putI v n).map bT) := by
  refine Owns.weak (us := [sT b, .int .u64 v, .int .i64 n]) ?_ (wk3 (bytesT_wk hx) (.refl _) (.refl _))
  intro off
  refine acalls_mk (N := 36) (rs := [.tmp 6]) hG Try.func38 rfl rfl rfl rfl rfl ?_
  repeat' (first
    | ((show AL _ _ _ _ _ _ _ _; refine al_cons rfl ?_); (first
      | (show AOp _ _ ⟨_, .move _, _, _, _, _⟩ _ _ _; refine r_move hG rfl rfl ?_)
      | (show AOp _ _ ⟨_, .assign _, _, _, _, _⟩ _ _ _; refine r_asg hG rfl rfl ?_)
      | (show AOp _ _ ⟨_, .binOp .add _ _ _ _, _, _, _, _⟩ _ _ _; first | refine r_ari64 hG rfl rfl rfl rfl rfl (by omega) ?_ | refine r_aru64 hG rfl rfl rfl rfl rfl (by omega) ?_ | refine r_aru8 hG rfl rfl rfl rfl rfl (by omega) ?_ | refine r_aru16 hG rfl rfl rfl rfl rfl (by omega) ?_)
      | (show AOp _ _ ⟨_, .binOp .sub _ _ _ _, _, _, _, _⟩ _ _ _; first | refine r_ari64 hG rfl rfl rfl rfl rfl (by omega) ?_ | refine r_aru64 hG rfl rfl rfl rfl rfl (by omega) ?_ | refine r_aru8 hG rfl rfl rfl rfl rfl (by omega) ?_ | refine r_aru16 hG rfl rfl rfl rfl rfl (by omega) ?_)
      | (show AOp _ _ ⟨_, .binOp .mul _ _ _ _, _, _, _, _⟩ _ _ _; first | refine r_ari64 hG rfl rfl rfl rfl rfl (by omega) ?_ | refine r_aru64 hG rfl rfl rfl rfl rfl (by omega) ?_ | refine r_aru8 hG rfl rfl rfl rfl rfl (by omega) ?_ | refine r_aru16 hG rfl rfl rfl rfl rfl (by omega) ?_)
      | (show AOp _ _ ⟨_, .binOp .shr _ _ _ _, _, _, _, _⟩ _ _ _; refine r_shr hG rfl rfl rfl rfl (by omega) ?_)
      | (show AOp _ _ ⟨_, .binOp _ _ _ _ _, _, _, _, _⟩ _ _ _; first | refine r_cmpT hG rfl rfl rfl rfl rfl (by omega) ?_ | refine r_cmpF hG rfl rfl rfl rfl rfl (by omega) ?_ | refine r_strT hG rfl rfl rfl rfl (by first | rfl | assumption) ?_ | refine r_strnF hG rfl rfl rfl rfl (by first | rfl | assumption) ?_ | refine r_strF hG rfl rfl rfl rfl (by assumption) ?_ | refine r_strnT hG rfl rfl rfl rfl (by assumption) ?_ | (refine r_cmp hG rfl rfl rfl rfl rfl (fun h => ?_) (fun h => ?_)) | (first | refine r_str hG rfl rfl rfl rfl (fun h => ?_) (fun h => ?_) | refine r_strn hG rfl rfl rfl rfl (fun h => ?_) (fun h => ?_)) | refine r_beq hG rfl rfl rfl rfl rfl ?_ | refine r_bin' hG rfl rfl rfl ?_)
      | (show AOp _ _ ⟨_, .convert _ _ _, _, _, _, _⟩ _ _ _; first | refine r_tostr hG rfl rfl rfl rfl rfl rfl rfl rfl (by first | exact bytesT_map _ _ | exact bytesT_s _ | rfl) ?_ | refine r_cv8 hG rfl rfl rfl rfl rfl rfl ?_ | refine r_cv16 hG rfl rfl rfl rfl rfl rfl ?_ | refine r_cv_i64 hG rfl rfl rfl rfl rfl (by omega) ?_ | refine r_cv_u64 hG rfl rfl rfl rfl rfl (by omega) ?_ | refine r_cv_u8 hG rfl rfl rfl rfl rfl (by omega) ?_ | refine r_cv_u16 hG rfl rfl rfl rfl rfl (by omega) ?_ | refine r_cvw hG rfl rfl rfl rfl rfl ?_)
      | (show AOp _ _ ⟨_, .pick _ _ _, _, _, _, _⟩ _ _ _; refine r_pick hG rfl rfl rfl ?_)
      | (show AOp _ _ ⟨_, .buildSlice _ _ _, _, _, _, _⟩ _ _ _; first | refine r_mk (sz := 1) hG rfl rfl rfl rfl rfl rfl rfl ?_ | refine r_mk (sz := 2) hG rfl rfl rfl rfl rfl rfl rfl ?_)
      | (show AOp _ _ ⟨_, .call ⟨.builtin .append, _, _⟩, _, _, _, _⟩ _ _ _; first | refine r_app0m (sz := 1) (xs := []) hG rfl rfl rfl rfl rfl rfl rfl ⟨_, rfl⟩ rfl rfl rfl rfl rfl rfl rfl (by first | omega | (simp; omega)) (fun k => ?_) | refine r_appm 0 hG rfl rfl rfl rfl rfl rfl rfl ⟨_, rfl⟩ rfl rfl rfl rfl rfl (by first | omega | (simp only [List.length_append, List.length_cons, List.length_nil]; omega)) (fun k => ?_) | fail)
      | refine r_q hG rfl rfl rfl ?_))
    | (show AL _ _ _ _ _ _ _ _; first | refine al_s rfl rfl rfl ?_ | (refine al_nil ?_; first | show AW _ _ _ _ _ _ | show ∃ x', _ < _ ∧ _)) | (show AW _ _ (.seq _ _) _ _ _; refine aw_seq' ?_; intro Q1) | (show AW _ _ (.region _ _ false) _ _ _; refine aw_regL' ?_; intro O1) | (show AW _ _ (.cond _ _ _) _ _ _; first | refine aw_if_t rfl ?_ | refine aw_if_f rfl ?_) | (show AW _ _ (.skip) _ _ _; refine aw_skip ?_; first | show AW _ _ _ _ _ _ | show ∃ x', _ < _ ∧ _) | (show AW _ _ (.block _ _) _ _ _; refine aw_block' ?_; intro Q1) | (show AW _ _ (.exit _) _ _ _; refine aw_exit ?_; first | show AW _ _ _ _ _ _ | show ∃ x', _ < _ ∧ _) | (show AW _ _ (.ret) _ _ _; refine aw_ret ?_; try dsimp only [thenA, inBlockA, jumpA, noGotoA]) | fail)
  · exact ret_owns 0 (res_tmp rfl res_nil) rfl (by rw [putI, if_neg (by omega), List.append_nil]; rfl) rfl
  · exact ret_owns 0 (res_tmp rfl res_nil) rfl (by rw [putI, if_neg (by omega), List.append_nil]; rfl) rfl
  have hn : 0 ≤ n ∧ n ≤ 8 := by omega
  obtain ⟨m, rfl⟩ := Int.eq_ofNat_of_zero_le hn.1
  obtain ⟨v, rfl⟩ := Int.eq_ofNat_of_zero_le hv
  refine aw_loop (X := RefX m) (fun x => [(1, .int .u64 v), (2, .int .i64 m), (7, .sl 1 (.tok x.k) ((b ++ (be v m).take x.i).map bT)), (8, .int .i64 x.i)]) (fun x => ⟨[], [x.k], off, none⟩) (fun x => m - x.i) ⟨0, _, by omega⟩ ?_ (.refl _) ?_
  · exact .cons rfl (.cons rfl (.consW rfl (.eq (by simp)) (.consW rfl (.int rfl) (.nil _))))
  rintro ⟨i, k, hi⟩
  dsimp only
  have hbl := be_length v m
  have htl : ((be v m).take i).length = i := by rw [List.length_take]; omega
  repeat' (first
    | ((show AL _ _ _ _ _ _ _ _; refine al_cons rfl ?_); (first
      | (show AOp _ _ ⟨_, .move _, _, _, _, _⟩ _ _ _; refine r_move hG rfl rfl ?_)
      | (show AOp _ _ ⟨_, .assign _, _, _, _, _⟩ _ _ _; refine r_asg hG rfl rfl ?_)
      | (show AOp _ _ ⟨_, .binOp .add _ _ _ _, _, _, _, _⟩ _ _ _; first | refine r_ari64 hG rfl rfl rfl rfl rfl (by omega) ?_ | refine r_aru64 hG rfl rfl rfl rfl rfl (by omega) ?_ | refine r_aru8 hG rfl rfl rfl rfl rfl (by omega) ?_ | refine r_aru16 hG rfl rfl rfl rfl rfl (by omega) ?_)
      | (show AOp _ _ ⟨_, .binOp .sub _ _ _ _, _, _, _, _⟩ _ _ _; first | refine r_ari64 hG rfl rfl rfl rfl rfl (by omega) ?_ | refine r_aru64 hG rfl rfl rfl rfl rfl (by omega) ?_ | refine r_aru8 hG rfl rfl rfl rfl rfl (by omega) ?_ | refine r_aru16 hG rfl rfl rfl rfl rfl (by omega) ?_)
      | (show AOp _ _ ⟨_, .binOp .mul _ _ _ _, _, _, _, _⟩ _ _ _; first | refine r_ari64 hG rfl rfl rfl rfl rfl (by omega) ?_ | refine r_aru64 hG rfl rfl rfl rfl rfl (by omega) ?_ | refine r_aru8 hG rfl rfl rfl rfl rfl (by omega) ?_ | refine r_aru16 hG rfl rfl rfl rfl rfl (by omega) ?_)
      | (show AOp _ _ ⟨_, .binOp .shr _ _ _ _, _, _, _, _⟩ _ _ _; refine r_shr hG rfl rfl rfl rfl (by omega) ?_)
      | (show AOp _ _ ⟨_, .binOp _ _ _ _ _, _, _, _, _⟩ _ _ _; first | refine r_cmpT hG rfl rfl rfl rfl rfl (by omega) ?_ | refine r_cmpF hG rfl rfl rfl rfl rfl (by omega) ?_ | refine r_strT hG rfl rfl rfl rfl (by first | rfl | assumption) ?_ | refine r_strnF hG rfl rfl rfl rfl (by first | rfl | assumption) ?_ | refine r_strF hG rfl rfl rfl rfl (by assumption) ?_ | refine r_strnT hG rfl rfl rfl rfl (by assumption) ?_ | (refine r_cmp hG rfl rfl rfl rfl rfl (fun h => ?_) (fun h => ?_)) | (first | refine r_str hG rfl rfl rfl rfl (fun h => ?_) (fun h => ?_) | refine r_strn hG rfl rfl rfl rfl (fun h => ?_) (fun h => ?_)) | refine r_beq hG rfl rfl rfl rfl rfl ?_ | refine r_bin' hG rfl rfl rfl ?_)
      | (show AOp _ _ ⟨_, .convert _ _ _, _, _, _, _⟩ _ _ _; first | refine r_tostr hG rfl rfl rfl rfl rfl rfl rfl rfl (by first | exact bytesT_map _ _ | exact bytesT_s _ | rfl) ?_ | refine r_cv8 hG rfl rfl rfl rfl rfl rfl ?_ | refine r_cv16 hG rfl rfl rfl rfl rfl rfl ?_ | refine r_cv_i64 hG rfl rfl rfl rfl rfl (by omega) ?_ | refine r_cv_u64 hG rfl rfl rfl rfl rfl (by omega) ?_ | refine r_cv_u8 hG rfl rfl rfl rfl rfl (by omega) ?_ | refine r_cv_u16 hG rfl rfl rfl rfl rfl (by omega) ?_ | refine r_cvw hG rfl rfl rfl rfl rfl ?_)
      | (show AOp _ _ ⟨_, .pick _ _ _, _, _, _, _⟩ _ _ _; refine r_pick hG rfl rfl rfl ?_)
      | (show AOp _ _ ⟨_, .buildSlice _ _ _, _, _, _, _⟩ _ _ _; first | refine r_mk (sz := 1) hG rfl rfl rfl rfl rfl rfl rfl ?_ | refine r_mk (sz := 2) hG rfl rfl rfl rfl rfl rfl rfl ?_)
      | (show AOp _ _ ⟨_, .call ⟨.builtin .append, _, _⟩, _, _, _, _⟩ _ _ _; first | refine r_app0m (sz := 1) (xs := []) hG rfl rfl rfl rfl rfl rfl rfl ⟨_, rfl⟩ rfl rfl rfl rfl rfl rfl rfl (by first | omega | (simp; omega)) (fun k => ?_) | refine r_appm 0 hG rfl rfl rfl rfl rfl rfl rfl ⟨_, rfl⟩ rfl rfl rfl rfl rfl (by first | omega | (simp only [List.length_append, List.length_cons, List.length_nil]; omega)) (fun k => ?_) | fail)
      | refine r_q hG rfl rfl rfl ?_))
    | (show AL _ _ _ _ _ _ _ _; first | refine al_s rfl rfl rfl ?_ | (refine al_nil ?_; first | show AW _ _ _ _ _ _ | show ∃ x', _ < _ ∧ _)) | (show AW _ _ (.seq _ _) _ _ _; refine aw_seq' ?_; intro Q1) | (show AW _ _ (.region _ _ false) _ _ _; refine aw_regL' ?_; intro O1) | (show AW _ _ (.cond _ _ _) _ _ _; first | refine aw_if_t rfl ?_ | refine aw_if_f rfl ?_) | (show AW _ _ (.skip) _ _ _; refine aw_skip ?_; first | show AW _ _ _ _ _ _ | show ∃ x', _ < _ ∧ _) | (show AW _ _ (.block _ _) _ _ _; refine aw_block' ?_; intro Q1) | (show AW _ _ (.exit _) _ _ _; refine aw_exit ?_; first | show AW _ _ _ _ _ _ | show ∃ x', _ < _ ∧ _) | (show AW _ _ (.ret) _ _ _; refine aw_ret ?_; try dsimp only [thenA, inBlockA, jumpA, noGotoA]) | fail)
  · have hbyte : T.int IntKind.u8 (IntKind.u8.wrap ((v : Int) / 2 ^ (min (8 * ((m : Int) - 1 - (i : Int))).toNat IntKind.u64.bits))) = bT (UInt8.ofNat (v / 2 ^ (8 * (m - 1 - i)))) := by
      have : min (8 * ((m : Int) - 1 - (i : Int))).toNat IntKind.u64.bits = 8 * (m - 1 - i) := by simp only [IntKind.bits]; omega
      rw [this]
      exact bT_of _ _ (by simp)
    refine al_cons rfl (r_appm 0 (ys := [UInt8.ofNat (v / 2 ^ (8 * (m - 1 - i)))]) hG rfl rfl rfl rfl rfl rfl rfl ⟨_, rfl⟩ rfl rfl rfl rfl (congrArg (fun t => [t]) hbyte) (by rw [List.length_append, htl]; simp; omega) (fun k' => ?_))
    repeat' (first
    | ((show AL _ _ _ _ _ _ _ _; refine al_cons rfl ?_); (first
      | (show AOp _ _ ⟨_, .move _, _, _, _, _⟩ _ _ _; refine r_move hG rfl rfl ?_)
      | (show AOp _ _ ⟨_, .assign _, _, _, _, _⟩ _ _ _; refine r_asg hG rfl rfl ?_)
      | (show AOp _ _ ⟨_, .binOp .add _ _ _ _, _, _, _, _⟩ _ _ _; first | refine r_ari64 hG rfl rfl rfl rfl rfl (by omega) ?_ | refine r_aru64 hG rfl rfl rfl rfl rfl (by omega) ?_ | refine r_aru8 hG rfl rfl rfl rfl rfl (by omega) ?_ | refine r_aru16 hG rfl rfl rfl rfl rfl (by omega) ?_)
      | (show AOp _ _ ⟨_, .binOp .sub _ _ _ _, _, _, _, _⟩ _ _ _; first | refine r_ari64 hG rfl rfl rfl rfl rfl (by omega) ?_ | refine r_aru64 hG rfl rfl rfl rfl rfl (by omega) ?_ | refine r_aru8 hG rfl rfl rfl rfl rfl (by omega) ?_ | refine r_aru16 hG rfl rfl rfl rfl rfl (by omega) ?_)
      | (show AOp _ _ ⟨_, .binOp .mul _ _ _ _, _, _, _, _⟩ _ _ _; first | refine r_ari64 hG rfl rfl rfl rfl rfl (by omega) ?_ | refine r_aru64 hG rfl rfl rfl rfl rfl (by omega) ?_ | refine r_aru8 hG rfl rfl rfl rfl rfl (by omega) ?_ | refine r_aru16 hG rfl rfl rfl rfl rfl (by omega) ?_)
      | (show AOp _ _ ⟨_, .binOp .shr _ _ _ _, _, _, _, _⟩ _ _ _; refine r_shr hG rfl rfl rfl rfl (by omega) ?_)
      | (show AOp _ _ ⟨_, .binOp _ _ _ _ _, _, _, _, _⟩ _ _ _; first | refine r_cmpT hG rfl rfl rfl rfl rfl (by omega) ?_ | refine r_cmpF hG rfl rfl rfl rfl rfl (by omega) ?_ | refine r_strT hG rfl rfl rfl rfl (by first | rfl | assumption) ?_ | refine r_strnF hG rfl rfl rfl rfl (by first | rfl | assumption) ?_ | refine r_strF hG rfl rfl rfl rfl (by assumption) ?_ | refine r_strnT hG rfl rfl rfl rfl (by assumption) ?_ | (refine r_cmp hG rfl rfl rfl rfl rfl (fun h => ?_) (fun h => ?_)) | (first | refine r_str hG rfl rfl rfl rfl (fun h => ?_) (fun h => ?_) | refine r_strn hG rfl rfl rfl rfl (fun h => ?_) (fun h => ?_)) | refine r_beq hG rfl rfl rfl rfl rfl ?_ | refine r_bin' hG rfl rfl rfl ?_)
      | (show AOp _ _ ⟨_, .convert _ _ _, _, _, _, _⟩ _ _ _; first | refine r_tostr hG rfl rfl rfl rfl rfl rfl rfl rfl (by first | exact bytesT_map _ _ | exact bytesT_s _ | rfl) ?_ | refine r_cv8 hG rfl rfl rfl rfl rfl rfl ?_ | refine r_cv16 hG rfl rfl rfl rfl rfl rfl ?_ | refine r_cv_i64 hG rfl rfl rfl rfl rfl (by omega) ?_ | refine r_cv_u64 hG rfl rfl rfl rfl rfl (by omega) ?_ | refine r_cv_u8 hG rfl rfl rfl rfl rfl (by omega) ?_ | refine r_cv_u16 hG rfl rfl rfl rfl rfl (by omega) ?_ | refine r_cvw hG rfl rfl rfl rfl rfl ?_)
      | (show AOp _ _ ⟨_, .pick _ _ _, _, _, _, _⟩ _ _ _; refine r_pick hG rfl rfl rfl ?_)
      | (show AOp _ _ ⟨_, .buildSlice _ _ _, _, _, _, _⟩ _ _ _; first | refine r_mk (sz := 1) hG rfl rfl rfl rfl rfl rfl rfl ?_ | refine r_mk (sz := 2) hG rfl rfl rfl rfl rfl rfl rfl ?_)
      | (show AOp _ _ ⟨_, .call ⟨.builtin .append, _, _⟩, _, _, _, _⟩ _ _ _; first | refine r_app0m (sz := 1) (xs := []) hG rfl rfl rfl rfl rfl rfl rfl ⟨_, rfl⟩ rfl rfl rfl rfl rfl rfl rfl (by first | omega | (simp; omega)) (fun k => ?_) | refine r_appm 0 hG rfl rfl rfl rfl rfl rfl rfl ⟨_, rfl⟩ rfl rfl rfl rfl rfl (by first | omega | (simp only [List.length_append, List.length_cons, List.length_nil]; omega)) (fun k => ?_) | fail)
      | refine r_q hG rfl rfl rfl ?_))
    | (show AL _ _ _ _ _ _ _ _; first | refine al_s rfl rfl rfl ?_ | (refine al_nil ?_; first | show AW _ _ _ _ _ _ | show ∃ x', _ < _ ∧ _)) | (show AW _ _ (.seq _ _) _ _ _; refine aw_seq' ?_; intro Q1) | (show AW _ _ (.region _ _ false) _ _ _; refine aw_regL' ?_; intro O1) | (show AW _ _ (.cond _ _ _) _ _ _; first | refine aw_if_t rfl ?_ | refine aw_if_f rfl ?_) | (show AW _ _ (.skip) _ _ _; refine aw_skip ?_; first | show AW _ _ _ _ _ _ | show ∃ x', _ < _ ∧ _) | (show AW _ _ (.block _ _) _ _ _; refine aw_block' ?_; intro Q1) | (show AW _ _ (.exit _) _ _ _; refine aw_exit ?_; first | show AW _ _ _ _ _ _ | show ∃ x', _ < _ ∧ _) | (show AW _ _ (.ret) _ _ _; refine aw_ret ?_; try dsimp only [thenA, inBlockA, jumpA, noGotoA]) | fail)
    refine ⟨⟨i + 1, k', by omega⟩, by dsimp only; omega, ?_, .refl _⟩
    refine .cons rfl (.cons rfl (.consW rfl (.eq ?_) (.consW rfl (.int (by simp)) (.nil _))))
    have hg := be_get v m i (by omega)
    rw [List.getElem?_eq_getElem (by omega)] at hg
    injection hg with hg
    rw [List.take_succ_eq_append_getElem (by omega), hg]
    simp
  · obtain rfl : i = m := by omega
    exact ret_owns 0 (res_tmp rfl res_nil) rfl (by rw [putI, if_pos hn, List.take_of_length_le (by omega)]; simp) rfl

theorem ref_PutBytes {x y : T} {b s : List UInt8} (hx : bytesT x = some b) (hy : bytesT y = some s) (hl : b.length ≤ 4294880000) (hs : s.length ≤ 70000) :
    Owns Try.prog 60 [x, y] 1 ((putBs b s).map bT) := by
  refine Owns.weak (us := [sT b, sT s]) ?_ (wk2 (bytesT_wk hx) (bytesT_wk hy))
  intro off
  refine acalls_mk (N := 12) (rs := [.tmp 4]) hG Try.func60 rfl rfl rfl rfl rfl ?_
  have hpl := putI_le s.length 2
  repeat' (first
    | ((show AL _ _ _ _ _ _ _ _; refine al_cons rfl ?_); (first
      | (show AOp _ _ ⟨_, .move _, _, _, _, _⟩ _ _ _; refine r_move hG rfl rfl ?_)
      | (show AOp _ _ ⟨_, .assign _, _, _, _, _⟩ _ _ _; refine r_asg hG rfl rfl ?_)
      | (show AOp _ _ ⟨_, .call ⟨.builtin .len, _, _⟩, _, _, _, _⟩ _ _ _; first | refine r_lenm hG rfl rfl rfl rfl ?_ | refine r_len hG rfl rfl rfl rfl rfl ?_)
      | (show AOp _ _ ⟨_, .convert _ _ _, _, _, _, _⟩ _ _ _; first | refine r_tostr hG rfl rfl rfl rfl rfl rfl rfl rfl (by first | exact bytesT_map _ _ | exact bytesT_s _ | rfl) ?_ | refine r_cv8 hG rfl rfl rfl rfl rfl rfl ?_ | refine r_cv16 hG rfl rfl rfl rfl rfl rfl ?_ | refine r_cv_i64 hG rfl rfl rfl rfl rfl (by omega) ?_ | refine r_cv_u64 hG rfl rfl rfl rfl rfl (by omega) ?_ | refine r_cv_u8 hG rfl rfl rfl rfl rfl (by omega) ?_ | refine r_cv_u16 hG rfl rfl rfl rfl rfl (by omega) ?_ | refine r_cvw hG rfl rfl rfl rfl rfl ?_)
      | (show AOp _ _ ⟨_, .call ⟨.builtin .append, _, _⟩, _, _, _, _⟩ _ _ _; first | refine r_app0m (sz := 1) (xs := []) hG rfl rfl rfl rfl rfl rfl rfl ⟨_, rfl⟩ rfl rfl rfl rfl rfl rfl rfl (by first | omega | (simp; omega)) (fun k => ?_) | refine r_appm 0 hG rfl rfl rfl rfl rfl rfl rfl ⟨_, rfl⟩ rfl rfl rfl rfl rfl (by first | omega | (simp only [List.length_append, List.length_cons, List.length_nil]; omega)) (fun k => ?_) | fail)
      | (show AOp _ _ ⟨_, .call ⟨.value _, _, _⟩, _, _, _, _⟩ _ _ _; first | (refine r_owns rfl rfl rfl rfl rfl (by apply ref_Put <;> (first | assumption | omega | exact bytesT_map _ _ | exact bytesT_s _ | exact catsT_map _ _ | exact catsT_c _ | rfl | (simp; omega))) (fun k => ?_)) | (have := kk; clear this; refine r_pure rfl rfl rfl rfl rfl (Owns.pure (by apply ref_Put <;> (first | assumption | omega | exact bytesT_map _ _ | exact bytesT_s _ | exact catsT_map _ _ | exact catsT_c _ | rfl | (simp; omega)))) ?_) | fail)
      | refine r_q hG rfl rfl rfl ?_))
    | (show AL _ _ _ _ _ _ _ _; first | refine al_s rfl rfl rfl ?_ | (refine al_nil ?_; first | show AW _ _ _ _ _ _ | show ∃ x', _ < _ ∧ _)) | (show AW _ _ (.seq _ _) _ _ _; refine aw_seq' ?_; intro Q1) | (show AW _ _ (.region _ _ false) _ _ _; refine aw_regL' ?_; intro O1) | (show AW _ _ (.ret) _ _ _; refine aw_ret ?_; try dsimp only [thenA, inBlockA, jumpA, noGotoA]) | fail)
  exact ret_owns 0 (res_tmp rfl res_nil) rfl (by simp [putBs]) rfl

end Go.Proofs.Ytholeicgmkjadaa
namespace Go.Sets
set_option linter.unusedSimpArgs false
set_option linter.unusedVariables false
abbrev C := UInt16

theorem lt_irrefl (x : C) : ¬ x < x := by simp [UInt16.lt_iff_toNat_lt]
theorem lt_trans {x y z : C} (h : x < y) (k : y < z) : x < z := by rw [UInt16.lt_iff_toNat_lt] at *; omega
theorem lt_or {x y : C} : x < y ∨ x = y ∨ y < x := by
  rcases Nat.lt_trichotomy x.toNat y.toNat with h | h | h
  · exact .inl (UInt16.lt_iff_toNat_lt.2 h)
  · exact .inr (.inl (UInt16.toNat_inj.1 h))
  · exact .inr (.inr (UInt16.lt_iff_toNat_lt.2 h))
theorem lt_asymm {x y : C} (h : x < y) : ¬ y < x := fun k => lt_irrefl x (lt_trans h k)
theorem lt_ne {x y : C} (h : x < y) : x ≠ y := fun e => lt_irrefl x (e ▸ h : x < x)

/-- A list that rises. -/
def Up (l : List C) : Prop := l.Pairwise (· < ·)
def risesB : List C → Bool
  | x :: y :: r => decide (x < y) && risesB (y :: r)
  | _ => true
theorem up_nil : Up [] := List.Pairwise.nil
theorem up_cons {x : C} {l : List C} : Up (x :: l) ↔ (∀ y ∈ l, x < y) ∧ Up l := List.pairwise_cons
theorem up_one (x : C) : Up [x] := up_cons.2 ⟨fun y h => by simp at h, up_nil⟩
theorem risesB_iff : ∀ {l : List C}, risesB l = true ↔ Up l
  | [] => ⟨fun _ => up_nil, fun _ => rfl⟩
  | [x] => ⟨fun _ => up_one x, fun _ => rfl⟩
  | x :: y :: r => by
    simp only [risesB, Bool.and_eq_true, decide_eq_true_eq]
    rw [risesB_iff, up_cons (x := x)]
    constructor
    · rintro ⟨h1, h2⟩
      refine ⟨fun z hz => ?_, h2⟩
      rcases List.mem_cons.1 hz with rfl | hz
      · exact h1
      · exact lt_trans h1 ((up_cons.1 h2).1 z hz)
    · rintro ⟨h1, h2⟩
      exact ⟨h1 y (by simp), h2⟩
theorem up_ext : ∀ {a b : List C}, Up a → Up b → (∀ x, x ∈ a ↔ x ∈ b) → a = b
  | [], [], _, _, _ => rfl
  | [], y :: b, _, _, h => by have := (h y).2 (by simp); simp at this
  | x :: a, [], _, _, h => by have := (h x).1 (by simp); simp at this
  | x :: a, y :: b, ha, hb, h => by
    obtain ⟨ha1, ha2⟩ := up_cons.1 ha
    obtain ⟨hb1, hb2⟩ := up_cons.1 hb
    have hxy : x = y := by
      rcases List.mem_cons.1 ((h x).1 (by simp)) with e | e
      · exact e
      · rcases List.mem_cons.1 ((h y).2 (by simp)) with e2 | e2
        · exact e2.symm
        · exact absurd (ha1 y e2) (lt_asymm (hb1 x e))
    subst hxy
    congr 1
    refine up_ext ha2 hb2 fun z => ?_
    constructor
    · intro hz
      rcases List.mem_cons.1 ((h z).1 (by simp [hz])) with e | e
      · exact absurd (ha1 z hz) (by rw [e]; exact lt_irrefl x)
      · exact e
    · intro hz
      rcases List.mem_cons.1 ((h z).2 (by simp [hz])) with e | e
      · exact absurd (hb1 z hz) (by rw [e]; exact lt_irrefl x)
      · exact e
theorem up_nodup {l : List C} (h : Up l) : l.Nodup := h.imp fun h => lt_ne h
/-- Two lists walked through at once. -/
def mergeK (keep : Bool → Bool → Bool) : List C → List C → List C
  | [], [] => []
  | [], y :: b => cond (keep false true) [y] [] ++ mergeK keep [] b
  | x :: a, [] => cond (keep true false) [x] [] ++ mergeK keep a []
  | x :: a, y :: b => if x < y then cond (keep true false) [x] [] ++ mergeK keep a (y :: b)
      else if y < x then cond (keep false true) [y] [] ++ mergeK keep (x :: a) b
      else cond (keep true true) [x] [] ++ mergeK keep a b
termination_by a b => a.length + b.length

theorem merge_mem (keep : Bool → Bool → Bool) : ∀ (a b : List C), Up a → Up b → ∀ z, z ∈ mergeK keep a b ↔ (z ∈ a ∨ z ∈ b) ∧ keep (decide (z ∈ a)) (decide (z ∈ b)) = true
  | [], [], _, _, z => by simp [mergeK]
  | [], y :: b, ha, hb, z => by
    obtain ⟨hb1, hb2⟩ := up_cons.1 hb
    rw [mergeK, List.mem_append, merge_mem keep [] b ha hb2]
    by_cases h : z = y
    · subst h
      have : z ∉ b := fun h => lt_irrefl z (hb1 z h)
      cases hk : keep false true <;> simp [hk, this]
    · cases hk : keep false true <;> simp [hk, h]
  | x :: a, [], ha, hb, z => by
    obtain ⟨ha1, ha2⟩ := up_cons.1 ha
    rw [mergeK, List.mem_append, merge_mem keep a [] ha2 hb]
    by_cases h : z = x
    · subst h
      have : z ∉ a := fun h => lt_irrefl z (ha1 z h)
      cases hk : keep true false <;> simp [hk, this]
    · cases hk : keep true false <;> simp [hk, h]
  | x :: a, y :: b, ha, hb, z => by
    obtain ⟨ha1, ha2⟩ := up_cons.1 ha
    obtain ⟨hb1, hb2⟩ := up_cons.1 hb
    rw [mergeK]
    by_cases h1 : x < y
    · rw [if_pos h1, List.mem_append, merge_mem keep a (y :: b) ha2 hb]
      have hxb : x ∉ y :: b := by
        intro h
        rcases List.mem_cons.1 h with e | e
        · exact lt_irrefl x (by rw [e] at h1 ⊢; exact absurd h1 (lt_irrefl y))
        · exact lt_irrefl x (lt_trans h1 (hb1 x e))
      by_cases h : z = x
      · subst h
        have : z ∉ a := fun h => lt_irrefl z (ha1 z h)
        cases hk : keep true false <;> simp only [this, hxb] <;> simp [hk]
      · have e1 : z ∈ x :: a ↔ z ∈ a := by simp [h]
        simp only [e1]
        cases hk : keep true false <;> simp [h]
    · rw [if_neg h1]
      by_cases h2 : y < x
      · rw [if_pos h2, List.mem_append, merge_mem keep (x :: a) b ha hb2]
        have hya : y ∉ x :: a := by
          intro h
          rcases List.mem_cons.1 h with e | e
          · exact lt_irrefl y (by rw [e] at h2 ⊢; exact absurd h2 (lt_irrefl x))
          · exact lt_irrefl y (lt_trans h2 (ha1 y e))
        by_cases h : z = y
        · subst h
          have : z ∉ b := fun h => lt_irrefl z (hb1 z h)
          cases hk : keep false true <;> simp only [this, hya] <;> simp [hk]
        · have e1 : z ∈ y :: b ↔ z ∈ b := by simp [h]
          simp only [e1]
          cases hk : keep false true <;> simp [h]
      · rw [if_neg h2]
        obtain rfl : x = y := by
          rcases lt_or (x := x) (y := y) with h | h | h
          · exact absurd h h1
          · exact h
          · exact absurd h h2
        rw [List.mem_append, merge_mem keep a b ha2 hb2]
        by_cases h : z = x
        · subst h
          have h3 : z ∉ a := fun h => lt_irrefl z (ha1 z h)
          have h4 : z ∉ b := fun h => lt_irrefl z (hb1 z h)
          cases hk : keep true true <;> simp [hk, h3, h4]
        · have e1 : z ∈ x :: a ↔ z ∈ a := by simp [h]
          have e2 : z ∈ x :: b ↔ z ∈ b := by simp [h]
          simp only [e1, e2]
          cases hk : keep true true <;> simp [h]
termination_by a b => a.length + b.length

theorem up_app {p : Bool} {x : C} {l : List C} (h : Up l) (hx : ∀ y ∈ l, x < y) : Up (cond p [x] [] ++ l) := by
  cases p with
  | false => exact h
  | true => exact up_cons.2 ⟨hx, h⟩
theorem merge_up (keep : Bool → Bool → Bool) : ∀ (a b : List C), Up a → Up b → Up (mergeK keep a b)
  | [], [], _, _ => by simp [mergeK]; exact up_nil
  | [], y :: b, ha, hb => by
    obtain ⟨hb1, hb2⟩ := up_cons.1 hb
    rw [mergeK]
    refine up_app (merge_up keep [] b ha hb2) fun z hz => ?_
    rw [merge_mem keep [] b ha hb2] at hz
    rcases hz.1 with h | h
    · simp at h
    · exact hb1 z h
  | x :: a, [], ha, hb => by
    obtain ⟨ha1, ha2⟩ := up_cons.1 ha
    rw [mergeK]
    refine up_app (merge_up keep a [] ha2 hb) fun z hz => ?_
    rw [merge_mem keep a [] ha2 hb] at hz
    rcases hz.1 with h | h
    · exact ha1 z h
    · simp at h
  | x :: a, y :: b, ha, hb => by
    obtain ⟨ha1, ha2⟩ := up_cons.1 ha
    obtain ⟨hb1, hb2⟩ := up_cons.1 hb
    rw [mergeK]
    by_cases h1 : x < y
    · rw [if_pos h1]
      refine up_app (merge_up keep a (y :: b) ha2 hb) fun z hz => ?_
      rw [merge_mem keep a (y :: b) ha2 hb] at hz
      rcases hz.1 with h | h
      · exact ha1 z h
      · rcases List.mem_cons.1 h with e | e
        · rw [e]; exact h1
        · exact lt_trans h1 (hb1 z e)
    · rw [if_neg h1]
      by_cases h2 : y < x
      · rw [if_pos h2]
        refine up_app (merge_up keep (x :: a) b ha hb2) fun z hz => ?_
        rw [merge_mem keep (x :: a) b ha hb2] at hz
        rcases hz.1 with h | h
        · rcases List.mem_cons.1 h with e | e
          · rw [e]; exact h2
          · exact lt_trans h2 (ha1 z e)
        · exact hb1 z h
      · rw [if_neg h2]
        obtain rfl : x = y := by
          rcases lt_or (x := x) (y := y) with h | h | h
          · exact absurd h h1
          · exact h
          · exact absurd h h2
        refine up_app (merge_up keep a b ha2 hb2) fun z hz => ?_
        rw [merge_mem keep a b ha2 hb2] at hz
        rcases hz.1 with h | h
        · exact ha1 z h
        · exact hb1 z h
termination_by a b => a.length + b.length

def kOr (_ _ : Bool) : Bool := true
theorem or_mem {a b : List C} (ha : Up a) (hb : Up b) (z : C) : z ∈ mergeK kOr a b ↔ z ∈ a ∨ z ∈ b := by rw [merge_mem _ _ _ ha hb]; simp [kOr]
/-- One more, in its place. -/
def ins (x : C) : List C → List C
  | [] => [x]
  | y :: l => if x < y then x :: y :: l else if x = y then y :: l else y :: ins x l
theorem ins_mem {x z : C} : ∀ {l : List C}, z ∈ ins x l ↔ z = x ∨ z ∈ l
  | [] => by simp [ins]
  | y :: l => by
    rw [ins]
    by_cases h : x < y
    · rw [if_pos h]; simp
    · rw [if_neg h]
      by_cases h2 : x = y
      · rw [if_pos h2]; subst h2; simp
      · rw [if_neg h2, List.mem_cons, ins_mem, List.mem_cons]
        constructor
        · rintro (h | h | h) <;> simp [h]
        · rintro (h | h | h) <;> simp [h]
theorem ins_up {x : C} : ∀ {l : List C}, Up l → Up (ins x l)
  | [], _ => up_one x
  | y :: l, h => by
    obtain ⟨h1, h2⟩ := up_cons.1 h
    rw [ins]
    by_cases h3 : x < y
    · rw [if_pos h3]
      refine up_cons.2 ⟨fun z hz => ?_, h⟩
      rcases List.mem_cons.1 hz with e | e
      · rw [e]; exact h3
      · exact lt_trans h3 (h1 z e)
    · rw [if_neg h3]
      by_cases h4 : x = y
      · rw [if_pos h4]; exact h
      · rw [if_neg h4]
        refine up_cons.2 ⟨fun z hz => ?_, ins_up h2⟩
        rcases ins_mem.1 hz with e | e
        · rw [e]
          rcases lt_or (x := x) (y := y) with h | h | h
          · exact absurd h h3
          · exact absurd h h4
          · exact h
        · exact h1 z e
/-- The set of a list. -/
def mk (l : List C) : List C := l.foldl (fun acc x => ins x acc) []
theorem foldl_ins_mem {z : C} : ∀ (l acc : List C), z ∈ l.foldl (fun acc x => ins x acc) acc ↔ z ∈ acc ∨ z ∈ l
  | [], acc => by simp
  | x :: l, acc => by
    rw [List.foldl_cons, foldl_ins_mem l, ins_mem, List.mem_cons]
    constructor
    · rintro ((h | h) | h) <;> simp [h]
    · rintro (h | h | h) <;> simp [h]
theorem foldl_ins_up : ∀ (l acc : List C), Up acc → Up (l.foldl (fun acc x => ins x acc) acc)
  | [], acc, h => h
  | x :: l, acc, h => foldl_ins_up l _ (ins_up h)
theorem mk_mem {l : List C} {z : C} : z ∈ mk l ↔ z ∈ l := by unfold mk; rw [foldl_ins_mem]; simp
theorem mk_up (l : List C) : Up (mk l) := foldl_ins_up l [] up_nil
theorem mk_length_le (l : List C) : (mk l).length ≤ l.length := by
  have h1 : (mk l).Nodup := up_nodup (mk_up l)
  have : ∀ (m l : List C), m.Nodup → (∀ x ∈ m, x ∈ l) → m.length ≤ l.length := by
    intro m
    induction m with
    | nil => intro l _ _; simp
    | cons x m ih =>
      intro l hn hs
      obtain ⟨h1, h2⟩ := List.nodup_cons.1 hn
      have hx := hs x (by simp)
      have := ih (l.erase x) h2 (fun y hy => (List.mem_erase_of_ne (by rintro rfl; exact h1 hy)).2 (hs y (by simp [hy])))
      have h3 := List.length_erase_of_mem hx
      have h4 := List.length_pos_of_mem hx
      simp only [List.length_cons]; omega
  exact this _ _ h1 fun x hx => mk_mem.1 hx
theorem merge_length_le (keep : Bool → Bool → Bool) : ∀ (a b : List C), (mergeK keep a b).length ≤ a.length + b.length
  | [], [] => by simp [mergeK]
  | [], y :: b => by
    have := merge_length_le keep [] b
    rw [mergeK]; cases keep false true <;> simp at this ⊢ <;> omega
  | x :: a, [] => by
    have := merge_length_le keep a []
    rw [mergeK]; cases keep true false <;> simp at this ⊢ <;> omega
  | x :: a, y :: b => by
    rw [mergeK]
    split
    · have := merge_length_le keep a (y :: b)
      cases keep true false <;> simp at this ⊢ <;> omega
    · split
      · have := merge_length_le keep (x :: a) b
        cases keep false true <;> simp at this ⊢ <;> omega
      · have := merge_length_le keep a b
        cases keep true true <;> simp at this ⊢ <;> omega
termination_by a b => a.length + b.length
end Go.Sets
namespace Go.Proofs.Ytholeicgmkjadaa
open Go.Ts Go.Sets
attribute [local irreducible] Go.Ts.AW Go.Ts.AOps Go.Ts.AL Go.Ts.AOp Go.Ts.ACalls Go.Ts.DL
theorem hT_lt {x y : UInt16} : ((x.toNat : Int) < (y.toNat : Int)) ↔ x < y := by rw [UInt16.lt_iff_toNat_lt]; omega

structure MX (keep : Bool → Bool → Bool) (a b : List UInt16) where
  a' : List UInt16
  b' : List UInt16
  pre : List UInt16
  k : Nat
  hp : pre ++ mergeK keep a' b' = mergeK keep a b
  hl : pre.length + a'.length + b'.length ≤ a.length + b.length
set_option maxHeartbeats 4000000 in
theorem merge_any {g : Nat} {keep : Bool → Bool → Bool} (hk : ∀ i t, Pure Try.prog g [.bool i, .bool t] (.bool (keep i t))) {x y : T} {a b : List UInt16} (hx : catsT x = some a) (hy : catsT y = some b) (hl : a.length + b.length ≤ 4294967000) :
    Owns Try.prog 76 [x, y, .fn (.func g) []] 1 ((mergeK keep a b).map hT) := by
  refine Owns.weak (us := [cT a, cT b, .fn (.func g) []]) ?_ (wk3 (catsT_wk hx) (catsT_wk hy) (.refl _))
  intro off
  refine acalls_mk (N := 72) (rs := [.tmp 6]) hG Try.func76 rfl rfl rfl rfl rfl ?_
  repeat' (first
    | ((first | (show AL _ _ _ _ _ _ _ _; refine al_cons rfl ?_) | (show DL _ _ _ _ _ _ _; refine' dl_cons rfl rfl (fun K kk => ?_) ?_; try (show Go.Ts.T; rotate_left))); (first
      | (show AOp _ _ ⟨_, .move _, _, _, _, _⟩ _ _ _; refine r_move hG rfl rfl ?_)
      | (show AOp _ _ ⟨_, .assign _, _, _, _, _⟩ _ _ _; refine r_asg hG rfl rfl ?_)
      | (show AOp _ _ ⟨_, .call ⟨.builtin .len, _, _⟩, _, _, _, _⟩ _ _ _; first | refine r_lenm hG rfl rfl rfl rfl ?_ | refine r_len hG rfl rfl rfl rfl rfl ?_)
      | (show AOp _ _ ⟨_, .binOp .add _ _ _ _, _, _, _, _⟩ _ _ _; first | refine r_ari64 hG rfl rfl rfl rfl rfl (by omega) ?_ | refine r_aru64 hG rfl rfl rfl rfl rfl (by omega) ?_ | refine r_aru8 hG rfl rfl rfl rfl rfl (by omega) ?_ | refine r_aru16 hG rfl rfl rfl rfl rfl (by omega) ?_)
      | (show AOp _ _ ⟨_, .binOp _ _ _ _ _, _, _, _, _⟩ _ _ _; first | refine r_cmpT hG rfl rfl rfl rfl rfl (by omega) ?_ | refine r_cmpF hG rfl rfl rfl rfl rfl (by omega) ?_ | refine r_strT hG rfl rfl rfl rfl (by first | rfl | assumption) ?_ | refine r_strnF hG rfl rfl rfl rfl (by first | rfl | assumption) ?_ | refine r_strF hG rfl rfl rfl rfl (by assumption) ?_ | refine r_strnT hG rfl rfl rfl rfl (by assumption) ?_ | ((fail_if_success have := kk); refine r_cmp hG rfl rfl rfl rfl rfl (fun h => ?_) (fun h => ?_)) | ((fail_if_success have := kk); first | refine r_str hG rfl rfl rfl rfl (fun h => ?_) (fun h => ?_) | refine r_strn hG rfl rfl rfl rfl (fun h => ?_) (fun h => ?_)) | refine r_beq hG rfl rfl rfl rfl rfl ?_ | refine r_bin' hG rfl rfl rfl ?_)
      | (show AOp _ _ ⟨_, .load _ _, _, _, _, _⟩ _ _ _; first | refine r_ldro hG rfl rfl rfl ?_ | refine r_ld 0 hG rfl rfl rfl rfl ?_ | refine r_ld 1 hG rfl rfl rfl rfl ?_ | refine r_ld 2 hG rfl rfl rfl rfl ?_ | refine r_ld 3 hG rfl rfl rfl rfl ?_)
      | (show AOp _ _ ⟨_, .indexAddr _ _ _, _, _, _, _⟩ _ _ _; first | refine r_idx0 hG rfl rfl rfl rfl rfl rfl rfl ?_ | refine r_idxn hG rfl rfl rfl rfl rfl rfl rfl (by omega) ?_ | refine r_idxm hG rfl rfl rfl rfl rfl rfl rfl (by omega) ?_ | refine r_idx hG rfl rfl ?_)
      | (show AOp _ _ ⟨_, .slice _ _ _ _ _, _, _, _, _⟩ _ _ _; first | refine r_sl_lon hG rfl rfl rfl rfl rfl rfl rfl (by omega) ?_ | refine r_sl_hin hG rfl rfl rfl rfl rfl rfl rfl (by omega) ?_ | refine r_sl_lhn hG rfl rfl rfl rfl rfl rfl rfl rfl (by omega) ?_ | refine r_sl_lo hG rfl rfl rfl rfl rfl rfl rfl (by omega) ?_ | refine r_sl_hi hG rfl rfl rfl rfl rfl rfl rfl (by omega) ?_ | refine r_sl_lh hG rfl rfl rfl rfl rfl rfl rfl rfl (by omega) ?_ | refine op_cut0 hG rfl rfl rfl rfl rfl rfl rfl rfl rfl rfl ?_ | refine r_sl hG rfl rfl ?_)
      | (show AOp _ _ ⟨_, .pick _ _ _, _, _, _, _⟩ _ _ _; refine r_pick hG rfl rfl rfl ?_)
      | (show AOp _ _ ⟨_, .buildSlice _ _ _, _, _, _, _⟩ _ _ _; first | refine r_mk (sz := 1) hG rfl rfl rfl rfl rfl rfl rfl ?_ | refine r_mk (sz := 2) hG rfl rfl rfl rfl rfl rfl rfl ?_)
      | (show AOp _ _ ⟨_, .call ⟨.builtin .append, _, _⟩, _, _, _, _⟩ _ _ _; first | refine r_app0m (sz := 1) (xs := []) hG rfl rfl rfl rfl rfl rfl rfl ⟨_, rfl⟩ rfl rfl rfl rfl rfl rfl rfl (by first | omega | (simp; omega)) (fun k => ?_) | refine r_appm 0 hG rfl rfl rfl rfl rfl rfl rfl ⟨_, rfl⟩ rfl rfl rfl rfl rfl (by first | omega | (simp only [List.length_append, List.length_cons, List.length_nil]; omega)) (fun k => ?_) | fail)
      | refine r_q hG rfl rfl rfl ?_); try exact kk)
    | (show AL _ _ _ _ _ _ _ _; first | refine al_s rfl rfl rfl ?_ | (refine al_nil ?_; first | show AW _ _ _ _ _ _ | show ∃ x', _ < _ ∧ _)) | (show AW _ _ (.seq _ _) _ _ _; refine aw_seq' ?_; intro Q1) | (show AW _ _ (.region _ _ false) _ _ _; refine aw_regL' ?_; intro O1) | (show AW _ _ (.cond _ _ _) _ _ _; first | refine aw_if_t rfl ?_ | refine aw_if_f rfl ?_) | (show AW _ _ (.skip) _ _ _; refine aw_skip ?_; first | show AW _ _ _ _ _ _ | show ∃ x', _ < _ ∧ _) | (show AW _ _ (.goto _) _ _ _; refine aw_goto ?_; try dsimp only [thenA, inBlockA, jumpA, noGotoA]) | (show AW _ _ (.ret) _ _ _; refine aw_ret ?_; try dsimp only [thenA, inBlockA, jumpA, noGotoA])
    | (show DL _ _ _ _ _ _ _; refine dl_d rfl rfl (fun K kt kf => r_cmp hG rfl rfl rfl rfl rfl kt kf) (fun h => ?_) (fun h => ?_)) | (show DL _ _ _ _ _ _ _; refine dl_d rfl rfl (fun K kt kf => r_str hG rfl rfl rfl rfl kt kf) (fun h => ?_) (fun h => ?_)) | (show DL _ _ _ _ _ _ _; refine dl_ne rfl rfl (fun K kt kf => r_strn hG rfl rfl rfl rfl kt kf) (fun h => ?_) (fun h => ?_))
    | (show DL _ _ _ _ _ _ _; refine dl_s rfl rfl rfl ?_) | (show DL _ _ _ _ _ _ _; refine dl_nil ?_; first | show AW _ _ _ _ _ _ | show ∃ x', _ < _ ∧ _) | (show AW _ _ (.region _ _ true) _ _ _; refine aw_draw' mix (by kernel_rfl) ?_; intro O1) | fail)
  refine aw_scope' 0 rfl (X := MX keep a b) (fun x => [(0, cT x.a'), (1, cT x.b'), (2, .fn (.func g) []), (7, .sl 1 (.tok x.k) (x.pre.map hT))]) (fun x => ⟨[], [x.k], off, none⟩) (fun x => x.a'.length + x.b'.length) ?_ ?_
  · rintro ⟨a', b', pre, k, hp, hl'⟩
    dsimp only at *
    cases a' with
    | nil =>
      have n1 : ([] : List UInt16).length = 0 := rfl
      cases b' with
      | nil =>
        repeat' (first
    | ((first | (show AL _ _ _ _ _ _ _ _; refine al_cons rfl ?_) | (show DL _ _ _ _ _ _ _; refine' dl_cons rfl rfl (fun K kk => ?_) ?_; try (show Go.Ts.T; rotate_left))); (first
      | (show AOp _ _ ⟨_, .move _, _, _, _, _⟩ _ _ _; refine r_move hG rfl rfl ?_)
      | (show AOp _ _ ⟨_, .assign _, _, _, _, _⟩ _ _ _; refine r_asg hG rfl rfl ?_)
      | (show AOp _ _ ⟨_, .call ⟨.builtin .len, _, _⟩, _, _, _, _⟩ _ _ _; first | refine r_lenm hG rfl rfl rfl rfl ?_ | refine r_len hG rfl rfl rfl rfl rfl ?_)
      | (show AOp _ _ ⟨_, .binOp .add _ _ _ _, _, _, _, _⟩ _ _ _; first | refine r_ari64 hG rfl rfl rfl rfl rfl (by omega) ?_ | refine r_aru64 hG rfl rfl rfl rfl rfl (by omega) ?_ | refine r_aru8 hG rfl rfl rfl rfl rfl (by omega) ?_ | refine r_aru16 hG rfl rfl rfl rfl rfl (by omega) ?_)
      | (show AOp _ _ ⟨_, .binOp _ _ _ _ _, _, _, _, _⟩ _ _ _; first | refine r_cmpT hG rfl rfl rfl rfl rfl (by omega) ?_ | refine r_cmpF hG rfl rfl rfl rfl rfl (by omega) ?_ | refine r_strT hG rfl rfl rfl rfl (by first | rfl | assumption) ?_ | refine r_strnF hG rfl rfl rfl rfl (by first | rfl | assumption) ?_ | refine r_strF hG rfl rfl rfl rfl (by assumption) ?_ | refine r_strnT hG rfl rfl rfl rfl (by assumption) ?_ | ((fail_if_success have := kk); refine r_cmp hG rfl rfl rfl rfl rfl (fun h => ?_) (fun h => ?_)) | ((fail_if_success have := kk); first | refine r_str hG rfl rfl rfl rfl (fun h => ?_) (fun h => ?_) | refine r_strn hG rfl rfl rfl rfl (fun h => ?_) (fun h => ?_)) | refine r_beq hG rfl rfl rfl rfl rfl ?_ | refine r_bin' hG rfl rfl rfl ?_)
      | (show AOp _ _ ⟨_, .load _ _, _, _, _, _⟩ _ _ _; first | refine r_ldro hG rfl rfl rfl ?_ | refine r_ld 0 hG rfl rfl rfl rfl ?_ | refine r_ld 1 hG rfl rfl rfl rfl ?_ | refine r_ld 2 hG rfl rfl rfl rfl ?_ | refine r_ld 3 hG rfl rfl rfl rfl ?_)
      | (show AOp _ _ ⟨_, .indexAddr _ _ _, _, _, _, _⟩ _ _ _; first | refine r_idx0 hG rfl rfl rfl rfl rfl rfl rfl ?_ | refine r_idxn hG rfl rfl rfl rfl rfl rfl rfl (by omega) ?_ | refine r_idxm hG rfl rfl rfl rfl rfl rfl rfl (by omega) ?_ | refine r_idx hG rfl rfl ?_)
      | (show AOp _ _ ⟨_, .slice _ _ _ _ _, _, _, _, _⟩ _ _ _; first | refine r_sl_lon hG rfl rfl rfl rfl rfl rfl rfl (by omega) ?_ | refine r_sl_hin hG rfl rfl rfl rfl rfl rfl rfl (by omega) ?_ | refine r_sl_lhn hG rfl rfl rfl rfl rfl rfl rfl rfl (by omega) ?_ | refine r_sl_lo hG rfl rfl rfl rfl rfl rfl rfl (by omega) ?_ | refine r_sl_hi hG rfl rfl rfl rfl rfl rfl rfl (by omega) ?_ | refine r_sl_lh hG rfl rfl rfl rfl rfl rfl rfl rfl (by omega) ?_ | refine op_cut0 hG rfl rfl rfl rfl rfl rfl rfl rfl rfl rfl ?_ | refine r_sl hG rfl rfl ?_)
      | (show AOp _ _ ⟨_, .pick _ _ _, _, _, _, _⟩ _ _ _; refine r_pick hG rfl rfl rfl ?_)
      | (show AOp _ _ ⟨_, .buildSlice _ _ _, _, _, _, _⟩ _ _ _; first | refine r_mk (sz := 1) hG rfl rfl rfl rfl rfl rfl rfl ?_ | refine r_mk (sz := 2) hG rfl rfl rfl rfl rfl rfl rfl ?_)
      | (show AOp _ _ ⟨_, .call ⟨.builtin .append, _, _⟩, _, _, _, _⟩ _ _ _; first | refine r_app0m (sz := 1) (xs := []) hG rfl rfl rfl rfl rfl rfl rfl ⟨_, rfl⟩ rfl rfl rfl rfl rfl rfl rfl (by first | omega | (simp; omega)) (fun k => ?_) | refine r_appm 0 hG rfl rfl rfl rfl rfl rfl rfl ⟨_, rfl⟩ rfl rfl rfl rfl rfl (by first | omega | (simp only [List.length_append, List.length_cons, List.length_nil]; omega)) (fun k => ?_) | fail)
      | refine r_q hG rfl rfl rfl ?_); try exact kk)
    | (show AL _ _ _ _ _ _ _ _; first | refine al_s rfl rfl rfl ?_ | (refine al_nil ?_; first | show AW _ _ _ _ _ _ | show ∃ x', _ < _ ∧ _)) | (show AW _ _ (.seq _ _) _ _ _; refine aw_seq' ?_; intro Q1) | (show AW _ _ (.region _ _ false) _ _ _; refine aw_regL' ?_; intro O1) | (show AW _ _ (.cond _ _ _) _ _ _; first | refine aw_if_t rfl ?_ | refine aw_if_f rfl ?_) | (show AW _ _ (.skip) _ _ _; refine aw_skip ?_; first | show AW _ _ _ _ _ _ | show ∃ x', _ < _ ∧ _) | (show AW _ _ (.goto _) _ _ _; refine aw_goto ?_; try dsimp only [thenA, inBlockA, jumpA, noGotoA]) | (show AW _ _ (.ret) _ _ _; refine aw_ret ?_; try dsimp only [thenA, inBlockA, jumpA, noGotoA])
    | (show DL _ _ _ _ _ _ _; refine dl_d rfl rfl (fun K kt kf => r_cmp hG rfl rfl rfl rfl rfl kt kf) (fun h => ?_) (fun h => ?_)) | (show DL _ _ _ _ _ _ _; refine dl_d rfl rfl (fun K kt kf => r_str hG rfl rfl rfl rfl kt kf) (fun h => ?_) (fun h => ?_)) | (show DL _ _ _ _ _ _ _; refine dl_ne rfl rfl (fun K kt kf => r_strn hG rfl rfl rfl rfl kt kf) (fun h => ?_) (fun h => ?_))
    | (show DL _ _ _ _ _ _ _; refine dl_s rfl rfl rfl ?_) | (show DL _ _ _ _ _ _ _; refine dl_nil ?_; first | show AW _ _ _ _ _ _ | show ∃ x', _ < _ ∧ _) | (show AW _ _ (.region _ _ true) _ _ _; refine aw_draw' mix (by kernel_rfl) ?_; intro O1) | fail)
        exact ret_owns 0 (res_tmp rfl res_nil) rfl (by rw [← hp]; simp [mergeK]) rfl
      | cons y b1 =>
        have n2 : (y :: b1).length = b1.length + 1 := rfl
        rw [mergeK] at hp
        have hk' := hk false true
        cases hkk : keep false true <;> rw [hkk] at hk' hp
        · repeat' (first
    | ((first | (show AL _ _ _ _ _ _ _ _; refine al_cons rfl ?_) | (show DL _ _ _ _ _ _ _; refine' dl_cons rfl rfl (fun K kk => ?_) ?_; try (show Go.Ts.T; rotate_left))); (first
      | (show AOp _ _ ⟨_, .move _, _, _, _, _⟩ _ _ _; refine r_move hG rfl rfl ?_)
      | (show AOp _ _ ⟨_, .assign _, _, _, _, _⟩ _ _ _; refine r_asg hG rfl rfl ?_)
      | (show AOp _ _ ⟨_, .call ⟨.builtin .len, _, _⟩, _, _, _, _⟩ _ _ _; first | refine r_lenm hG rfl rfl rfl rfl ?_ | refine r_len hG rfl rfl rfl rfl rfl ?_)
      | (show AOp _ _ ⟨_, .binOp .add _ _ _ _, _, _, _, _⟩ _ _ _; first | refine r_ari64 hG rfl rfl rfl rfl rfl (by omega) ?_ | refine r_aru64 hG rfl rfl rfl rfl rfl (by omega) ?_ | refine r_aru8 hG rfl rfl rfl rfl rfl (by omega) ?_ | refine r_aru16 hG rfl rfl rfl rfl rfl (by omega) ?_)
      | (show AOp _ _ ⟨_, .binOp _ _ _ _ _, _, _, _, _⟩ _ _ _; first | refine r_cmpT hG rfl rfl rfl rfl rfl (by omega) ?_ | refine r_cmpF hG rfl rfl rfl rfl rfl (by omega) ?_ | refine r_strT hG rfl rfl rfl rfl (by first | rfl | assumption) ?_ | refine r_strnF hG rfl rfl rfl rfl (by first | rfl | assumption) ?_ | refine r_strF hG rfl rfl rfl rfl (by assumption) ?_ | refine r_strnT hG rfl rfl rfl rfl (by assumption) ?_ | ((fail_if_success have := kk); refine r_cmp hG rfl rfl rfl rfl rfl (fun h => ?_) (fun h => ?_)) | ((fail_if_success have := kk); first | refine r_str hG rfl rfl rfl rfl (fun h => ?_) (fun h => ?_) | refine r_strn hG rfl rfl rfl rfl (fun h => ?_) (fun h => ?_)) | refine r_beq hG rfl rfl rfl rfl rfl ?_ | refine r_bin' hG rfl rfl rfl ?_)
      | (show AOp _ _ ⟨_, .load _ _, _, _, _, _⟩ _ _ _; first | refine r_ldro hG rfl rfl rfl ?_ | refine r_ld 0 hG rfl rfl rfl rfl ?_ | refine r_ld 1 hG rfl rfl rfl rfl ?_ | refine r_ld 2 hG rfl rfl rfl rfl ?_ | refine r_ld 3 hG rfl rfl rfl rfl ?_)
      | (show AOp _ _ ⟨_, .indexAddr _ _ _, _, _, _, _⟩ _ _ _; first | refine r_idx0 hG rfl rfl rfl rfl rfl rfl rfl ?_ | refine r_idxn hG rfl rfl rfl rfl rfl rfl rfl (by omega) ?_ | refine r_idxm hG rfl rfl rfl rfl rfl rfl rfl (by omega) ?_ | refine r_idx hG rfl rfl ?_)
      | (show AOp _ _ ⟨_, .slice _ _ _ _ _, _, _, _, _⟩ _ _ _; first | refine r_sl_lon hG rfl rfl rfl rfl rfl rfl rfl (by omega) ?_ | refine r_sl_hin hG rfl rfl rfl rfl rfl rfl rfl (by omega) ?_ | refine r_sl_lhn hG rfl rfl rfl rfl rfl rfl rfl rfl (by omega) ?_ | refine r_sl_lo hG rfl rfl rfl rfl rfl rfl rfl (by omega) ?_ | refine r_sl_hi hG rfl rfl rfl rfl rfl rfl rfl (by omega) ?_ | refine r_sl_lh hG rfl rfl rfl rfl rfl rfl rfl rfl (by omega) ?_ | refine op_cut0 hG rfl rfl rfl rfl rfl rfl rfl rfl rfl rfl ?_ | refine r_sl hG rfl rfl ?_)
      | (show AOp _ _ ⟨_, .pick _ _ _, _, _, _, _⟩ _ _ _; refine r_pick hG rfl rfl rfl ?_)
      | (show AOp _ _ ⟨_, .buildSlice _ _ _, _, _, _, _⟩ _ _ _; first | refine r_mk (sz := 1) hG rfl rfl rfl rfl rfl rfl rfl ?_ | refine r_mk (sz := 2) hG rfl rfl rfl rfl rfl rfl rfl ?_)
      | (show AOp _ _ ⟨_, .call ⟨.builtin .append, _, _⟩, _, _, _, _⟩ _ _ _; first | refine r_app0m (sz := 1) (xs := []) hG rfl rfl rfl rfl rfl rfl rfl ⟨_, rfl⟩ rfl rfl rfl rfl rfl rfl rfl (by first | omega | (simp; omega)) (fun k => ?_) | refine r_appm 0 hG rfl rfl rfl rfl rfl rfl rfl ⟨_, rfl⟩ rfl rfl rfl rfl rfl (by first | omega | (simp only [List.length_append, List.length_cons, List.length_nil]; omega)) (fun k => ?_) | fail)
      | (show AOp _ _ ⟨_, .call ⟨.value _, _, _⟩, _, _, _, _⟩ _ _ _; first | refine r_pure rfl rfl rfl rfl rfl (by apply hk' <;> (first | assumption | omega | exact bytesT_map _ _ | exact bytesT_s _ | exact catsT_map _ _ | exact catsT_c _ | rfl | (simp; omega))) ?_ | fail)
      | refine r_q hG rfl rfl rfl ?_); try exact kk)
    | (show AL _ _ _ _ _ _ _ _; first | refine al_s rfl rfl rfl ?_ | (refine al_nil ?_; first | show AW _ _ _ _ _ _ | show ∃ x', _ < _ ∧ _)) | (show AW _ _ (.seq _ _) _ _ _; refine aw_seq' ?_; intro Q1) | (show AW _ _ (.region _ _ false) _ _ _; refine aw_regL' ?_; intro O1) | (show AW _ _ (.cond _ _ _) _ _ _; first | refine aw_if_t rfl ?_ | refine aw_if_f rfl ?_) | (show AW _ _ (.skip) _ _ _; refine aw_skip ?_; first | show AW _ _ _ _ _ _ | show ∃ x', _ < _ ∧ _) | (show AW _ _ (.goto _) _ _ _; refine aw_goto ?_; try dsimp only [thenA, inBlockA, jumpA, noGotoA]) | (show AW _ _ (.ret) _ _ _; refine aw_ret ?_; try dsimp only [thenA, inBlockA, jumpA, noGotoA])
    | (show DL _ _ _ _ _ _ _; refine dl_d rfl rfl (fun K kt kf => r_cmp hG rfl rfl rfl rfl rfl kt kf) (fun h => ?_) (fun h => ?_)) | (show DL _ _ _ _ _ _ _; refine dl_d rfl rfl (fun K kt kf => r_str hG rfl rfl rfl rfl kt kf) (fun h => ?_) (fun h => ?_)) | (show DL _ _ _ _ _ _ _; refine dl_ne rfl rfl (fun K kt kf => r_strn hG rfl rfl rfl rfl kt kf) (fun h => ?_) (fun h => ?_))
    | (show DL _ _ _ _ _ _ _; refine dl_s rfl rfl rfl ?_) | (show DL _ _ _ _ _ _ _; refine dl_nil ?_; first | show AW _ _ _ _ _ _ | show ∃ x', _ < _ ∧ _) | (show AW _ _ (.region _ _ true) _ _ _; refine aw_draw' mix (by kernel_rfl) ?_; intro O1) | fail)
          refine ⟨rfl, ⟨[], b1, pre, k, hp, by simp only [List.length_cons] at *; omega⟩, by simp only [List.length_cons]; omega, ?_, .refl _⟩
          exact .consW rfl (.eq (by simp [cT])) (.consW rfl (.eq (by simp [cT])) (.cons rfl (.cons rfl (.nil _))))
        · repeat' (first
    | ((first | (show AL _ _ _ _ _ _ _ _; refine al_cons rfl ?_) | (show DL _ _ _ _ _ _ _; refine' dl_cons rfl rfl (fun K kk => ?_) ?_; try (show Go.Ts.T; rotate_left))); (first
      | (show AOp _ _ ⟨_, .move _, _, _, _, _⟩ _ _ _; refine r_move hG rfl rfl ?_)
      | (show AOp _ _ ⟨_, .assign _, _, _, _, _⟩ _ _ _; refine r_asg hG rfl rfl ?_)
      | (show AOp _ _ ⟨_, .call ⟨.builtin .len, _, _⟩, _, _, _, _⟩ _ _ _; first | refine r_lenm hG rfl rfl rfl rfl ?_ | refine r_len hG rfl rfl rfl rfl rfl ?_)
      | (show AOp _ _ ⟨_, .binOp .add _ _ _ _, _, _, _, _⟩ _ _ _; first | refine r_ari64 hG rfl rfl rfl rfl rfl (by omega) ?_ | refine r_aru64 hG rfl rfl rfl rfl rfl (by omega) ?_ | refine r_aru8 hG rfl rfl rfl rfl rfl (by omega) ?_ | refine r_aru16 hG rfl rfl rfl rfl rfl (by omega) ?_)
      | (show AOp _ _ ⟨_, .binOp _ _ _ _ _, _, _, _, _⟩ _ _ _; first | refine r_cmpT hG rfl rfl rfl rfl rfl (by omega) ?_ | refine r_cmpF hG rfl rfl rfl rfl rfl (by omega) ?_ | refine r_strT hG rfl rfl rfl rfl (by first | rfl | assumption) ?_ | refine r_strnF hG rfl rfl rfl rfl (by first | rfl | assumption) ?_ | refine r_strF hG rfl rfl rfl rfl (by assumption) ?_ | refine r_strnT hG rfl rfl rfl rfl (by assumption) ?_ | ((fail_if_success have := kk); refine r_cmp hG rfl rfl rfl rfl rfl (fun h => ?_) (fun h => ?_)) | ((fail_if_success have := kk); first | refine r_str hG rfl rfl rfl rfl (fun h => ?_) (fun h => ?_) | refine r_strn hG rfl rfl rfl rfl (fun h => ?_) (fun h => ?_)) | refine r_beq hG rfl rfl rfl rfl rfl ?_ | refine r_bin' hG rfl rfl rfl ?_)
      | (show AOp _ _ ⟨_, .load _ _, _, _, _, _⟩ _ _ _; first | refine r_ldro hG rfl rfl rfl ?_ | refine r_ld 0 hG rfl rfl rfl rfl ?_ | refine r_ld 1 hG rfl rfl rfl rfl ?_ | refine r_ld 2 hG rfl rfl rfl rfl ?_ | refine r_ld 3 hG rfl rfl rfl rfl ?_)
      | (show AOp _ _ ⟨_, .indexAddr _ _ _, _, _, _, _⟩ _ _ _; first | refine r_idx0 hG rfl rfl rfl rfl rfl rfl rfl ?_ | refine r_idxn hG rfl rfl rfl rfl rfl rfl rfl (by omega) ?_ | refine r_idxm hG rfl rfl rfl rfl rfl rfl rfl (by omega) ?_ | refine r_idx hG rfl rfl ?_)
      | (show AOp _ _ ⟨_, .slice _ _ _ _ _, _, _, _, _⟩ _ _ _; first | refine r_sl_lon hG rfl rfl rfl rfl rfl rfl rfl (by omega) ?_ | refine r_sl_hin hG rfl rfl rfl rfl rfl rfl rfl (by omega) ?_ | refine r_sl_lhn hG rfl rfl rfl rfl rfl rfl rfl rfl (by omega) ?_ | refine r_sl_lo hG rfl rfl rfl rfl rfl rfl rfl (by omega) ?_ | refine r_sl_hi hG rfl rfl rfl rfl rfl rfl rfl (by omega) ?_ | refine r_sl_lh hG rfl rfl rfl rfl rfl rfl rfl rfl (by omega) ?_ | refine op_cut0 hG rfl rfl rfl rfl rfl rfl rfl rfl rfl rfl ?_ | refine r_sl hG rfl rfl ?_)
      | (show AOp _ _ ⟨_, .pick _ _ _, _, _, _, _⟩ _ _ _; refine r_pick hG rfl rfl rfl ?_)
      | (show AOp _ _ ⟨_, .buildSlice _ _ _, _, _, _, _⟩ _ _ _; first | refine r_mk (sz := 1) hG rfl rfl rfl rfl rfl rfl rfl ?_ | refine r_mk (sz := 2) hG rfl rfl rfl rfl rfl rfl rfl ?_)
      | (show AOp _ _ ⟨_, .call ⟨.builtin .append, _, _⟩, _, _, _, _⟩ _ _ _; first | refine r_appm 0 (ys := [y]) hG rfl rfl rfl rfl rfl rfl rfl ⟨_, rfl⟩ rfl rfl rfl rfl rfl (by simp only [List.length_append, List.length_map, List.length_cons, List.length_nil]; omega) (fun k => ?_) | refine r_app0m (sz := 1) (xs := []) hG rfl rfl rfl rfl rfl rfl rfl ⟨_, rfl⟩ rfl rfl rfl rfl rfl rfl rfl (by first | omega | (simp; omega)) (fun k => ?_) | refine r_appm 0 hG rfl rfl rfl rfl rfl rfl rfl ⟨_, rfl⟩ rfl rfl rfl rfl rfl (by first | omega | (simp only [List.length_append, List.length_cons, List.length_nil]; omega)) (fun k => ?_) | fail)
      | (show AOp _ _ ⟨_, .call ⟨.value _, _, _⟩, _, _, _, _⟩ _ _ _; first | refine r_pure rfl rfl rfl rfl rfl (by apply hk' <;> (first | assumption | omega | exact bytesT_map _ _ | exact bytesT_s _ | exact catsT_map _ _ | exact catsT_c _ | rfl | (simp; omega))) ?_ | fail)
      | refine r_q hG rfl rfl rfl ?_); try exact kk)
    | (show AL _ _ _ _ _ _ _ _; first | refine al_s rfl rfl rfl ?_ | (refine al_nil ?_; first | show AW _ _ _ _ _ _ | show ∃ x', _ < _ ∧ _)) | (show AW _ _ (.seq _ _) _ _ _; refine aw_seq' ?_; intro Q1) | (show AW _ _ (.region _ _ false) _ _ _; refine aw_regL' ?_; intro O1) | (show AW _ _ (.cond _ _ _) _ _ _; first | refine aw_if_t rfl ?_ | refine aw_if_f rfl ?_) | (show AW _ _ (.skip) _ _ _; refine aw_skip ?_; first | show AW _ _ _ _ _ _ | show ∃ x', _ < _ ∧ _) | (show AW _ _ (.goto _) _ _ _; refine aw_goto ?_; try dsimp only [thenA, inBlockA, jumpA, noGotoA]) | (show AW _ _ (.ret) _ _ _; refine aw_ret ?_; try dsimp only [thenA, inBlockA, jumpA, noGotoA])
    | (show DL _ _ _ _ _ _ _; refine dl_d rfl rfl (fun K kt kf => r_cmp hG rfl rfl rfl rfl rfl kt kf) (fun h => ?_) (fun h => ?_)) | (show DL _ _ _ _ _ _ _; refine dl_d rfl rfl (fun K kt kf => r_str hG rfl rfl rfl rfl kt kf) (fun h => ?_) (fun h => ?_)) | (show DL _ _ _ _ _ _ _; refine dl_ne rfl rfl (fun K kt kf => r_strn hG rfl rfl rfl rfl kt kf) (fun h => ?_) (fun h => ?_))
    | (show DL _ _ _ _ _ _ _; refine dl_s rfl rfl rfl ?_) | (show DL _ _ _ _ _ _ _; refine dl_nil ?_; first | show AW _ _ _ _ _ _ | show ∃ x', _ < _ ∧ _) | (show AW _ _ (.region _ _ true) _ _ _; refine aw_draw' mix (by kernel_rfl) ?_; intro O1) | fail)
          refine ⟨rfl, ⟨[], b1, pre ++ [y], _, by simpa using hp, by simp only [List.length_cons, List.length_append, List.length_nil] at *; omega⟩, by simp only [List.length_cons]; omega, ?_, .refl _⟩
          exact .consW rfl (.eq (by simp [cT])) (.consW rfl (.eq (by simp [cT])) (.cons rfl (.cons rfl (.nil _))))
    | cons x a1 =>
      have n1 : (x :: a1).length = a1.length + 1 := rfl
      cases b' with
      | nil =>
        have n2 : ([] : List UInt16).length = 0 := rfl
        rw [mergeK] at hp
        have hk' := hk true false
        cases hkk : keep true false <;> rw [hkk] at hk' hp
        · repeat' (first
    | ((first | (show AL _ _ _ _ _ _ _ _; refine al_cons rfl ?_) | (show DL _ _ _ _ _ _ _; refine' dl_cons rfl rfl (fun K kk => ?_) ?_; try (show Go.Ts.T; rotate_left))); (first
      | (show AOp _ _ ⟨_, .move _, _, _, _, _⟩ _ _ _; refine r_move hG rfl rfl ?_)
      | (show AOp _ _ ⟨_, .assign _, _, _, _, _⟩ _ _ _; refine r_asg hG rfl rfl ?_)
      | (show AOp _ _ ⟨_, .call ⟨.builtin .len, _, _⟩, _, _, _, _⟩ _ _ _; first | refine r_lenm hG rfl rfl rfl rfl ?_ | refine r_len hG rfl rfl rfl rfl rfl ?_)
      | (show AOp _ _ ⟨_, .binOp .add _ _ _ _, _, _, _, _⟩ _ _ _; first | refine r_ari64 hG rfl rfl rfl rfl rfl (by omega) ?_ | refine r_aru64 hG rfl rfl rfl rfl rfl (by omega) ?_ | refine r_aru8 hG rfl rfl rfl rfl rfl (by omega) ?_ | refine r_aru16 hG rfl rfl rfl rfl rfl (by omega) ?_)
      | (show AOp _ _ ⟨_, .binOp _ _ _ _ _, _, _, _, _⟩ _ _ _; first | refine r_cmpT hG rfl rfl rfl rfl rfl (by omega) ?_ | refine r_cmpF hG rfl rfl rfl rfl rfl (by omega) ?_ | refine r_strT hG rfl rfl rfl rfl (by first | rfl | assumption) ?_ | refine r_strnF hG rfl rfl rfl rfl (by first | rfl | assumption) ?_ | refine r_strF hG rfl rfl rfl rfl (by assumption) ?_ | refine r_strnT hG rfl rfl rfl rfl (by assumption) ?_ | ((fail_if_success have := kk); refine r_cmp hG rfl rfl rfl rfl rfl (fun h => ?_) (fun h => ?_)) | ((fail_if_success have := kk); first | refine r_str hG rfl rfl rfl rfl (fun h => ?_) (fun h => ?_) | refine r_strn hG rfl rfl rfl rfl (fun h => ?_) (fun h => ?_)) | refine r_beq hG rfl rfl rfl rfl rfl ?_ | refine r_bin' hG rfl rfl rfl ?_)
      | (show AOp _ _ ⟨_, .load _ _, _, _, _, _⟩ _ _ _; first | refine r_ldro hG rfl rfl rfl ?_ | refine r_ld 0 hG rfl rfl rfl rfl ?_ | refine r_ld 1 hG rfl rfl rfl rfl ?_ | refine r_ld 2 hG rfl rfl rfl rfl ?_ | refine r_ld 3 hG rfl rfl rfl rfl ?_)
      | (show AOp _ _ ⟨_, .indexAddr _ _ _, _, _, _, _⟩ _ _ _; first | refine r_idx0 hG rfl rfl rfl rfl rfl rfl rfl ?_ | refine r_idxn hG rfl rfl rfl rfl rfl rfl rfl (by omega) ?_ | refine r_idxm hG rfl rfl rfl rfl rfl rfl rfl (by omega) ?_ | refine r_idx hG rfl rfl ?_)
      | (show AOp _ _ ⟨_, .slice _ _ _ _ _, _, _, _, _⟩ _ _ _; first | refine r_sl_lon hG rfl rfl rfl rfl rfl rfl rfl (by omega) ?_ | refine r_sl_hin hG rfl rfl rfl rfl rfl rfl rfl (by omega) ?_ | refine r_sl_lhn hG rfl rfl rfl rfl rfl rfl rfl rfl (by omega) ?_ | refine r_sl_lo hG rfl rfl rfl rfl rfl rfl rfl (by omega) ?_ | refine r_sl_hi hG rfl rfl rfl rfl rfl rfl rfl (by omega) ?_ | refine r_sl_lh hG rfl rfl rfl rfl rfl rfl rfl rfl (by omega) ?_ | refine op_cut0 hG rfl rfl rfl rfl rfl rfl rfl rfl rfl rfl ?_ | refine r_sl hG rfl rfl ?_)
      | (show AOp _ _ ⟨_, .pick _ _ _, _, _, _, _⟩ _ _ _; refine r_pick hG rfl rfl rfl ?_)
      | (show AOp _ _ ⟨_, .buildSlice _ _ _, _, _, _, _⟩ _ _ _; first | refine r_mk (sz := 1) hG rfl rfl rfl rfl rfl rfl rfl ?_ | refine r_mk (sz := 2) hG rfl rfl rfl rfl rfl rfl rfl ?_)
      | (show AOp _ _ ⟨_, .call ⟨.builtin .append, _, _⟩, _, _, _, _⟩ _ _ _; first | refine r_app0m (sz := 1) (xs := []) hG rfl rfl rfl rfl rfl rfl rfl ⟨_, rfl⟩ rfl rfl rfl rfl rfl rfl rfl (by first | omega | (simp; omega)) (fun k => ?_) | refine r_appm 0 hG rfl rfl rfl rfl rfl rfl rfl ⟨_, rfl⟩ rfl rfl rfl rfl rfl (by first | omega | (simp only [List.length_append, List.length_cons, List.length_nil]; omega)) (fun k => ?_) | fail)
      | (show AOp _ _ ⟨_, .call ⟨.value _, _, _⟩, _, _, _, _⟩ _ _ _; first | refine r_pure rfl rfl rfl rfl rfl (by apply hk' <;> (first | assumption | omega | exact bytesT_map _ _ | exact bytesT_s _ | exact catsT_map _ _ | exact catsT_c _ | rfl | (simp; omega))) ?_ | fail)
      | refine r_q hG rfl rfl rfl ?_); try exact kk)
    | (show AL _ _ _ _ _ _ _ _; first | refine al_s rfl rfl rfl ?_ | (refine al_nil ?_; first | show AW _ _ _ _ _ _ | show ∃ x', _ < _ ∧ _)) | (show AW _ _ (.seq _ _) _ _ _; refine aw_seq' ?_; intro Q1) | (show AW _ _ (.region _ _ false) _ _ _; refine aw_regL' ?_; intro O1) | (show AW _ _ (.cond _ _ _) _ _ _; first | refine aw_if_t rfl ?_ | refine aw_if_f rfl ?_) | (show AW _ _ (.skip) _ _ _; refine aw_skip ?_; first | show AW _ _ _ _ _ _ | show ∃ x', _ < _ ∧ _) | (show AW _ _ (.goto _) _ _ _; refine aw_goto ?_; try dsimp only [thenA, inBlockA, jumpA, noGotoA]) | (show AW _ _ (.ret) _ _ _; refine aw_ret ?_; try dsimp only [thenA, inBlockA, jumpA, noGotoA])
    | (show DL _ _ _ _ _ _ _; refine dl_d rfl rfl (fun K kt kf => r_cmp hG rfl rfl rfl rfl rfl kt kf) (fun h => ?_) (fun h => ?_)) | (show DL _ _ _ _ _ _ _; refine dl_d rfl rfl (fun K kt kf => r_str hG rfl rfl rfl rfl kt kf) (fun h => ?_) (fun h => ?_)) | (show DL _ _ _ _ _ _ _; refine dl_ne rfl rfl (fun K kt kf => r_strn hG rfl rfl rfl rfl kt kf) (fun h => ?_) (fun h => ?_))
    | (show DL _ _ _ _ _ _ _; refine dl_s rfl rfl rfl ?_) | (show DL _ _ _ _ _ _ _; refine dl_nil ?_; first | show AW _ _ _ _ _ _ | show ∃ x', _ < _ ∧ _) | (show AW _ _ (.region _ _ true) _ _ _; refine aw_draw' mix (by kernel_rfl) ?_; intro O1) | fail)
          refine ⟨rfl, ⟨a1, [], pre, k, hp, by simp only [List.length_cons] at *; omega⟩, by simp only [List.length_cons]; omega, ?_, .refl _⟩
          exact .consW rfl (.eq (by simp [cT])) (.consW rfl (.eq (by simp [cT])) (.cons rfl (.cons rfl (.nil _))))
        · repeat' (first
    | ((first | (show AL _ _ _ _ _ _ _ _; refine al_cons rfl ?_) | (show DL _ _ _ _ _ _ _; refine' dl_cons rfl rfl (fun K kk => ?_) ?_; try (show Go.Ts.T; rotate_left))); (first
      | (show AOp _ _ ⟨_, .move _, _, _, _, _⟩ _ _ _; refine r_move hG rfl rfl ?_)
      | (show AOp _ _ ⟨_, .assign _, _, _, _, _⟩ _ _ _; refine r_asg hG rfl rfl ?_)
      | (show AOp _ _ ⟨_, .call ⟨.builtin .len, _, _⟩, _, _, _, _⟩ _ _ _; first | refine r_lenm hG rfl rfl rfl rfl ?_ | refine r_len hG rfl rfl rfl rfl rfl ?_)
      | (show AOp _ _ ⟨_, .binOp .add _ _ _ _, _, _, _, _⟩ _ _ _; first | refine r_ari64 hG rfl rfl rfl rfl rfl (by omega) ?_ | refine r_aru64 hG rfl rfl rfl rfl rfl (by omega) ?_ | refine r_aru8 hG rfl rfl rfl rfl rfl (by omega) ?_ | refine r_aru16 hG rfl rfl rfl rfl rfl (by omega) ?_)
      | (show AOp _ _ ⟨_, .binOp _ _ _ _ _, _, _, _, _⟩ _ _ _; first | refine r_cmpT hG rfl rfl rfl rfl rfl (by omega) ?_ | refine r_cmpF hG rfl rfl rfl rfl rfl (by omega) ?_ | refine r_strT hG rfl rfl rfl rfl (by first | rfl | assumption) ?_ | refine r_strnF hG rfl rfl rfl rfl (by first | rfl | assumption) ?_ | refine r_strF hG rfl rfl rfl rfl (by assumption) ?_ | refine r_strnT hG rfl rfl rfl rfl (by assumption) ?_ | ((fail_if_success have := kk); refine r_cmp hG rfl rfl rfl rfl rfl (fun h => ?_) (fun h => ?_)) | ((fail_if_success have := kk); first | refine r_str hG rfl rfl rfl rfl (fun h => ?_) (fun h => ?_) | refine r_strn hG rfl rfl rfl rfl (fun h => ?_) (fun h => ?_)) | refine r_beq hG rfl rfl rfl rfl rfl ?_ | refine r_bin' hG rfl rfl rfl ?_)
      | (show AOp _ _ ⟨_, .load _ _, _, _, _, _⟩ _ _ _; first | refine r_ldro hG rfl rfl rfl ?_ | refine r_ld 0 hG rfl rfl rfl rfl ?_ | refine r_ld 1 hG rfl rfl rfl rfl ?_ | refine r_ld 2 hG rfl rfl rfl rfl ?_ | refine r_ld 3 hG rfl rfl rfl rfl ?_)
      | (show AOp _ _ ⟨_, .indexAddr _ _ _, _, _, _, _⟩ _ _ _; first | refine r_idx0 hG rfl rfl rfl rfl rfl rfl rfl ?_ | refine r_idxn hG rfl rfl rfl rfl rfl rfl rfl (by omega) ?_ | refine r_idxm hG rfl rfl rfl rfl rfl rfl rfl (by omega) ?_ | refine r_idx hG rfl rfl ?_)
      | (show AOp _ _ ⟨_, .slice _ _ _ _ _, _, _, _, _⟩ _ _ _; first | refine r_sl_lon hG rfl rfl rfl rfl rfl rfl rfl (by omega) ?_ | refine r_sl_hin hG rfl rfl rfl rfl rfl rfl rfl (by omega) ?_ | refine r_sl_lhn hG rfl rfl rfl rfl rfl rfl rfl rfl (by omega) ?_ | refine r_sl_lo hG rfl rfl rfl rfl rfl rfl rfl (by omega) ?_ | refine r_sl_hi hG rfl rfl rfl rfl rfl rfl rfl (by omega) ?_ | refine r_sl_lh hG rfl rfl rfl rfl rfl rfl rfl rfl (by omega) ?_ | refine op_cut0 hG rfl rfl rfl rfl rfl rfl rfl rfl rfl rfl ?_ | refine r_sl hG rfl rfl ?_)
      | (show AOp _ _ ⟨_, .pick _ _ _, _, _, _, _⟩ _ _ _; refine r_pick hG rfl rfl rfl ?_)
      | (show AOp _ _ ⟨_, .buildSlice _ _ _, _, _, _, _⟩ _ _ _; first | refine r_mk (sz := 1) hG rfl rfl rfl rfl rfl rfl rfl ?_ | refine r_mk (sz := 2) hG rfl rfl rfl rfl rfl rfl rfl ?_)
      | (show AOp _ _ ⟨_, .call ⟨.builtin .append, _, _⟩, _, _, _, _⟩ _ _ _; first | refine r_appm 0 (ys := [x]) hG rfl rfl rfl rfl rfl rfl rfl ⟨_, rfl⟩ rfl rfl rfl rfl rfl (by simp only [List.length_append, List.length_map, List.length_cons, List.length_nil]; omega) (fun k => ?_) | refine r_app0m (sz := 1) (xs := []) hG rfl rfl rfl rfl rfl rfl rfl ⟨_, rfl⟩ rfl rfl rfl rfl rfl rfl rfl (by first | omega | (simp; omega)) (fun k => ?_) | refine r_appm 0 hG rfl rfl rfl rfl rfl rfl rfl ⟨_, rfl⟩ rfl rfl rfl rfl rfl (by first | omega | (simp only [List.length_append, List.length_cons, List.length_nil]; omega)) (fun k => ?_) | fail)
      | (show AOp _ _ ⟨_, .call ⟨.value _, _, _⟩, _, _, _, _⟩ _ _ _; first | refine r_pure rfl rfl rfl rfl rfl (by apply hk' <;> (first | assumption | omega | exact bytesT_map _ _ | exact bytesT_s _ | exact catsT_map _ _ | exact catsT_c _ | rfl | (simp; omega))) ?_ | fail)
      | refine r_q hG rfl rfl rfl ?_); try exact kk)
    | (show AL _ _ _ _ _ _ _ _; first | refine al_s rfl rfl rfl ?_ | (refine al_nil ?_; first | show AW _ _ _ _ _ _ | show ∃ x', _ < _ ∧ _)) | (show AW _ _ (.seq _ _) _ _ _; refine aw_seq' ?_; intro Q1) | (show AW _ _ (.region _ _ false) _ _ _; refine aw_regL' ?_; intro O1) | (show AW _ _ (.cond _ _ _) _ _ _; first | refine aw_if_t rfl ?_ | refine aw_if_f rfl ?_) | (show AW _ _ (.skip) _ _ _; refine aw_skip ?_; first | show AW _ _ _ _ _ _ | show ∃ x', _ < _ ∧ _) | (show AW _ _ (.goto _) _ _ _; refine aw_goto ?_; try dsimp only [thenA, inBlockA, jumpA, noGotoA]) | (show AW _ _ (.ret) _ _ _; refine aw_ret ?_; try dsimp only [thenA, inBlockA, jumpA, noGotoA])
    | (show DL _ _ _ _ _ _ _; refine dl_d rfl rfl (fun K kt kf => r_cmp hG rfl rfl rfl rfl rfl kt kf) (fun h => ?_) (fun h => ?_)) | (show DL _ _ _ _ _ _ _; refine dl_d rfl rfl (fun K kt kf => r_str hG rfl rfl rfl rfl kt kf) (fun h => ?_) (fun h => ?_)) | (show DL _ _ _ _ _ _ _; refine dl_ne rfl rfl (fun K kt kf => r_strn hG rfl rfl rfl rfl kt kf) (fun h => ?_) (fun h => ?_))
    | (show DL _ _ _ _ _ _ _; refine dl_s rfl rfl rfl ?_) | (show DL _ _ _ _ _ _ _; refine dl_nil ?_; first | show AW _ _ _ _ _ _ | show ∃ x', _ < _ ∧ _) | (show AW _ _ (.region _ _ true) _ _ _; refine aw_draw' mix (by kernel_rfl) ?_; intro O1) | fail)
          refine ⟨rfl, ⟨a1, [], pre ++ [x], _, by simpa using hp, by simp only [List.length_cons, List.length_append, List.length_nil] at *; omega⟩, by simp only [List.length_cons]; omega, ?_, .refl _⟩
          exact .consW rfl (.eq (by simp [cT])) (.consW rfl (.eq (by simp [cT])) (.cons rfl (.cons rfl (.nil _))))
      | cons y b1 =>
        have n2 : (y :: b1).length = b1.length + 1 := rfl
        rw [mergeK] at hp
        by_cases h1 : x < y
        · rw [if_pos h1] at hp
          rw [← hT_lt] at h1
          have hk' := hk true false
          cases hkk : keep true false <;> rw [hkk] at hk' hp
          · repeat' (first
    | ((first | (show AL _ _ _ _ _ _ _ _; refine al_cons rfl ?_) | (show DL _ _ _ _ _ _ _; refine' dl_cons rfl rfl (fun K kk => ?_) ?_; try (show Go.Ts.T; rotate_left))); (first
      | (show AOp _ _ ⟨_, .move _, _, _, _, _⟩ _ _ _; refine r_move hG rfl rfl ?_)
      | (show AOp _ _ ⟨_, .assign _, _, _, _, _⟩ _ _ _; refine r_asg hG rfl rfl ?_)
      | (show AOp _ _ ⟨_, .call ⟨.builtin .len, _, _⟩, _, _, _, _⟩ _ _ _; first | refine r_lenm hG rfl rfl rfl rfl ?_ | refine r_len hG rfl rfl rfl rfl rfl ?_)
      | (show AOp _ _ ⟨_, .binOp .add _ _ _ _, _, _, _, _⟩ _ _ _; first | refine r_ari64 hG rfl rfl rfl rfl rfl (by omega) ?_ | refine r_aru64 hG rfl rfl rfl rfl rfl (by omega) ?_ | refine r_aru8 hG rfl rfl rfl rfl rfl (by omega) ?_ | refine r_aru16 hG rfl rfl rfl rfl rfl (by omega) ?_)
      | (show AOp _ _ ⟨_, .binOp _ _ _ _ _, _, _, _, _⟩ _ _ _; first | refine r_cmpT hG rfl rfl rfl rfl rfl (by omega) ?_ | refine r_cmpF hG rfl rfl rfl rfl rfl (by omega) ?_ | refine r_strT hG rfl rfl rfl rfl (by first | rfl | assumption) ?_ | refine r_strnF hG rfl rfl rfl rfl (by first | rfl | assumption) ?_ | refine r_strF hG rfl rfl rfl rfl (by assumption) ?_ | refine r_strnT hG rfl rfl rfl rfl (by assumption) ?_ | ((fail_if_success have := kk); refine r_cmp hG rfl rfl rfl rfl rfl (fun h => ?_) (fun h => ?_)) | ((fail_if_success have := kk); first | refine r_str hG rfl rfl rfl rfl (fun h => ?_) (fun h => ?_) | refine r_strn hG rfl rfl rfl rfl (fun h => ?_) (fun h => ?_)) | refine r_beq hG rfl rfl rfl rfl rfl ?_ | refine r_bin' hG rfl rfl rfl ?_)
      | (show AOp _ _ ⟨_, .load _ _, _, _, _, _⟩ _ _ _; first | refine r_ldro hG rfl rfl rfl ?_ | refine r_ld 0 hG rfl rfl rfl rfl ?_ | refine r_ld 1 hG rfl rfl rfl rfl ?_ | refine r_ld 2 hG rfl rfl rfl rfl ?_ | refine r_ld 3 hG rfl rfl rfl rfl ?_)
      | (show AOp _ _ ⟨_, .indexAddr _ _ _, _, _, _, _⟩ _ _ _; first | refine r_idx0 hG rfl rfl rfl rfl rfl rfl rfl ?_ | refine r_idxn hG rfl rfl rfl rfl rfl rfl rfl (by omega) ?_ | refine r_idxm hG rfl rfl rfl rfl rfl rfl rfl (by omega) ?_ | refine r_idx hG rfl rfl ?_)
      | (show AOp _ _ ⟨_, .slice _ _ _ _ _, _, _, _, _⟩ _ _ _; first | refine r_sl_lon hG rfl rfl rfl rfl rfl rfl rfl (by omega) ?_ | refine r_sl_hin hG rfl rfl rfl rfl rfl rfl rfl (by omega) ?_ | refine r_sl_lhn hG rfl rfl rfl rfl rfl rfl rfl rfl (by omega) ?_ | refine r_sl_lo hG rfl rfl rfl rfl rfl rfl rfl (by omega) ?_ | refine r_sl_hi hG rfl rfl rfl rfl rfl rfl rfl (by omega) ?_ | refine r_sl_lh hG rfl rfl rfl rfl rfl rfl rfl rfl (by omega) ?_ | refine op_cut0 hG rfl rfl rfl rfl rfl rfl rfl rfl rfl rfl ?_ | refine r_sl hG rfl rfl ?_)
      | (show AOp _ _ ⟨_, .pick _ _ _, _, _, _, _⟩ _ _ _; refine r_pick hG rfl rfl rfl ?_)
      | (show AOp _ _ ⟨_, .buildSlice _ _ _, _, _, _, _⟩ _ _ _; first | refine r_mk (sz := 1) hG rfl rfl rfl rfl rfl rfl rfl ?_ | refine r_mk (sz := 2) hG rfl rfl rfl rfl rfl rfl rfl ?_)
      | (show AOp _ _ ⟨_, .call ⟨.builtin .append, _, _⟩, _, _, _, _⟩ _ _ _; first | refine r_app0m (sz := 1) (xs := []) hG rfl rfl rfl rfl rfl rfl rfl ⟨_, rfl⟩ rfl rfl rfl rfl rfl rfl rfl (by first | omega | (simp; omega)) (fun k => ?_) | refine r_appm 0 hG rfl rfl rfl rfl rfl rfl rfl ⟨_, rfl⟩ rfl rfl rfl rfl rfl (by first | omega | (simp only [List.length_append, List.length_cons, List.length_nil]; omega)) (fun k => ?_) | fail)
      | (show AOp _ _ ⟨_, .call ⟨.value _, _, _⟩, _, _, _, _⟩ _ _ _; first | refine r_pure rfl rfl rfl rfl rfl (by apply hk' <;> (first | assumption | omega | exact bytesT_map _ _ | exact bytesT_s _ | exact catsT_map _ _ | exact catsT_c _ | rfl | (simp; omega))) ?_ | fail)
      | refine r_q hG rfl rfl rfl ?_); try exact kk)
    | (show AL _ _ _ _ _ _ _ _; first | refine al_s rfl rfl rfl ?_ | (refine al_nil ?_; first | show AW _ _ _ _ _ _ | show ∃ x', _ < _ ∧ _)) | (show AW _ _ (.seq _ _) _ _ _; refine aw_seq' ?_; intro Q1) | (show AW _ _ (.region _ _ false) _ _ _; refine aw_regL' ?_; intro O1) | (show AW _ _ (.cond _ _ _) _ _ _; first | refine aw_if_t rfl ?_ | refine aw_if_f rfl ?_) | (show AW _ _ (.skip) _ _ _; refine aw_skip ?_; first | show AW _ _ _ _ _ _ | show ∃ x', _ < _ ∧ _) | (show AW _ _ (.goto _) _ _ _; refine aw_goto ?_; try dsimp only [thenA, inBlockA, jumpA, noGotoA]) | (show AW _ _ (.ret) _ _ _; refine aw_ret ?_; try dsimp only [thenA, inBlockA, jumpA, noGotoA])
    | (show DL _ _ _ _ _ _ _; refine dl_d rfl rfl (fun K kt kf => r_cmp hG rfl rfl rfl rfl rfl kt kf) (fun h => ?_) (fun h => ?_)) | (show DL _ _ _ _ _ _ _; refine dl_d rfl rfl (fun K kt kf => r_str hG rfl rfl rfl rfl kt kf) (fun h => ?_) (fun h => ?_)) | (show DL _ _ _ _ _ _ _; refine dl_ne rfl rfl (fun K kt kf => r_strn hG rfl rfl rfl rfl kt kf) (fun h => ?_) (fun h => ?_))
    | (show DL _ _ _ _ _ _ _; refine dl_s rfl rfl rfl ?_) | (show DL _ _ _ _ _ _ _; refine dl_nil ?_; first | show AW _ _ _ _ _ _ | show ∃ x', _ < _ ∧ _) | (show AW _ _ (.region _ _ true) _ _ _; refine aw_draw' mix (by kernel_rfl) ?_; intro O1) | fail)
            refine ⟨rfl, ⟨a1, y :: b1, pre, k, hp, by simp only [List.length_cons] at *; omega⟩, by simp only [List.length_cons]; omega, ?_, .refl _⟩
            exact .consW rfl (.eq (by simp [cT])) (.consW rfl (.eq (by simp [cT])) (.cons rfl (.cons rfl (.nil _))))
          · repeat' (first
    | ((first | (show AL _ _ _ _ _ _ _ _; refine al_cons rfl ?_) | (show DL _ _ _ _ _ _ _; refine' dl_cons rfl rfl (fun K kk => ?_) ?_; try (show Go.Ts.T; rotate_left))); (first
      | (show AOp _ _ ⟨_, .move _, _, _, _, _⟩ _ _ _; refine r_move hG rfl rfl ?_)
      | (show AOp _ _ ⟨_, .assign _, _, _, _, _⟩ _ _ _; refine r_asg hG rfl rfl ?_)
      | (show AOp _ _ ⟨_, .call ⟨.builtin .len, _, _⟩, _, _, _, _⟩ _ _ _; first | refine r_lenm hG rfl rfl rfl rfl ?_ | refine r_len hG rfl rfl rfl rfl rfl ?_)
      | (show AOp _ _ ⟨_, .binOp .add _ _ _ _, _, _, _, _⟩ _ _ _; first | refine r_ari64 hG rfl rfl rfl rfl rfl (by omega) ?_ | refine r_aru64 hG rfl rfl rfl rfl rfl (by omega) ?_ | refine r_aru8 hG rfl rfl rfl rfl rfl (by omega) ?_ | refine r_aru16 hG rfl rfl rfl rfl rfl (by omega) ?_)
      | (show AOp _ _ ⟨_, .binOp _ _ _ _ _, _, _, _, _⟩ _ _ _; first | refine r_cmpT hG rfl rfl rfl rfl rfl (by omega) ?_ | refine r_cmpF hG rfl rfl rfl rfl rfl (by omega) ?_ | refine r_strT hG rfl rfl rfl rfl (by first | rfl | assumption) ?_ | refine r_strnF hG rfl rfl rfl rfl (by first | rfl | assumption) ?_ | refine r_strF hG rfl rfl rfl rfl (by assumption) ?_ | refine r_strnT hG rfl rfl rfl rfl (by assumption) ?_ | ((fail_if_success have := kk); refine r_cmp hG rfl rfl rfl rfl rfl (fun h => ?_) (fun h => ?_)) | ((fail_if_success have := kk); first | refine r_str hG rfl rfl rfl rfl (fun h => ?_) (fun h => ?_) | refine r_strn hG rfl rfl rfl rfl (fun h => ?_) (fun h => ?_)) | refine r_beq hG rfl rfl rfl rfl rfl ?_ | refine r_bin' hG rfl rfl rfl ?_)
      | (show AOp _ _ ⟨_, .load _ _, _, _, _, _⟩ _ _ _; first | refine r_ldro hG rfl rfl rfl ?_ | refine r_ld 0 hG rfl rfl rfl rfl ?_ | refine r_ld 1 hG rfl rfl rfl rfl ?_ | refine r_ld 2 hG rfl rfl rfl rfl ?_ | refine r_ld 3 hG rfl rfl rfl rfl ?_)
      | (show AOp _ _ ⟨_, .indexAddr _ _ _, _, _, _, _⟩ _ _ _; first | refine r_idx0 hG rfl rfl rfl rfl rfl rfl rfl ?_ | refine r_idxn hG rfl rfl rfl rfl rfl rfl rfl (by omega) ?_ | refine r_idxm hG rfl rfl rfl rfl rfl rfl rfl (by omega) ?_ | refine r_idx hG rfl rfl ?_)
      | (show AOp _ _ ⟨_, .slice _ _ _ _ _, _, _, _, _⟩ _ _ _; first | refine r_sl_lon hG rfl rfl rfl rfl rfl rfl rfl (by omega) ?_ | refine r_sl_hin hG rfl rfl rfl rfl rfl rfl rfl (by omega) ?_ | refine r_sl_lhn hG rfl rfl rfl rfl rfl rfl rfl rfl (by omega) ?_ | refine r_sl_lo hG rfl rfl rfl rfl rfl rfl rfl (by omega) ?_ | refine r_sl_hi hG rfl rfl rfl rfl rfl rfl rfl (by omega) ?_ | refine r_sl_lh hG rfl rfl rfl rfl rfl rfl rfl rfl (by omega) ?_ | refine op_cut0 hG rfl rfl rfl rfl rfl rfl rfl rfl rfl rfl ?_ | refine r_sl hG rfl rfl ?_)
      | (show AOp _ _ ⟨_, .pick _ _ _, _, _, _, _⟩ _ _ _; refine r_pick hG rfl rfl rfl ?_)
      | (show AOp _ _ ⟨_, .buildSlice _ _ _, _, _, _, _⟩ _ _ _; first | refine r_mk (sz := 1) hG rfl rfl rfl rfl rfl rfl rfl ?_ | refine r_mk (sz := 2) hG rfl rfl rfl rfl rfl rfl rfl ?_)
      | (show AOp _ _ ⟨_, .call ⟨.builtin .append, _, _⟩, _, _, _, _⟩ _ _ _; first | refine r_appm 0 (ys := [x]) hG rfl rfl rfl rfl rfl rfl rfl ⟨_, rfl⟩ rfl rfl rfl rfl rfl (by simp only [List.length_append, List.length_map, List.length_cons, List.length_nil]; omega) (fun k => ?_) | refine r_app0m (sz := 1) (xs := []) hG rfl rfl rfl rfl rfl rfl rfl ⟨_, rfl⟩ rfl rfl rfl rfl rfl rfl rfl (by first | omega | (simp; omega)) (fun k => ?_) | refine r_appm 0 hG rfl rfl rfl rfl rfl rfl rfl ⟨_, rfl⟩ rfl rfl rfl rfl rfl (by first | omega | (simp only [List.length_append, List.length_cons, List.length_nil]; omega)) (fun k => ?_) | fail)
      | (show AOp _ _ ⟨_, .call ⟨.value _, _, _⟩, _, _, _, _⟩ _ _ _; first | refine r_pure rfl rfl rfl rfl rfl (by apply hk' <;> (first | assumption | omega | exact bytesT_map _ _ | exact bytesT_s _ | exact catsT_map _ _ | exact catsT_c _ | rfl | (simp; omega))) ?_ | fail)
      | refine r_q hG rfl rfl rfl ?_); try exact kk)
    | (show AL _ _ _ _ _ _ _ _; first | refine al_s rfl rfl rfl ?_ | (refine al_nil ?_; first | show AW _ _ _ _ _ _ | show ∃ x', _ < _ ∧ _)) | (show AW _ _ (.seq _ _) _ _ _; refine aw_seq' ?_; intro Q1) | (show AW _ _ (.region _ _ false) _ _ _; refine aw_regL' ?_; intro O1) | (show AW _ _ (.cond _ _ _) _ _ _; first | refine aw_if_t rfl ?_ | refine aw_if_f rfl ?_) | (show AW _ _ (.skip) _ _ _; refine aw_skip ?_; first | show AW _ _ _ _ _ _ | show ∃ x', _ < _ ∧ _) | (show AW _ _ (.goto _) _ _ _; refine aw_goto ?_; try dsimp only [thenA, inBlockA, jumpA, noGotoA]) | (show AW _ _ (.ret) _ _ _; refine aw_ret ?_; try dsimp only [thenA, inBlockA, jumpA, noGotoA])
    | (show DL _ _ _ _ _ _ _; refine dl_d rfl rfl (fun K kt kf => r_cmp hG rfl rfl rfl rfl rfl kt kf) (fun h => ?_) (fun h => ?_)) | (show DL _ _ _ _ _ _ _; refine dl_d rfl rfl (fun K kt kf => r_str hG rfl rfl rfl rfl kt kf) (fun h => ?_) (fun h => ?_)) | (show DL _ _ _ _ _ _ _; refine dl_ne rfl rfl (fun K kt kf => r_strn hG rfl rfl rfl rfl kt kf) (fun h => ?_) (fun h => ?_))
    | (show DL _ _ _ _ _ _ _; refine dl_s rfl rfl rfl ?_) | (show DL _ _ _ _ _ _ _; refine dl_nil ?_; first | show AW _ _ _ _ _ _ | show ∃ x', _ < _ ∧ _) | (show AW _ _ (.region _ _ true) _ _ _; refine aw_draw' mix (by kernel_rfl) ?_; intro O1) | fail)
            refine ⟨rfl, ⟨a1, y :: b1, pre ++ [x], _, by simpa using hp, by simp only [List.length_cons, List.length_append, List.length_nil] at *; omega⟩, by simp only [List.length_cons]; omega, ?_, .refl _⟩
            exact .consW rfl (.eq (by simp [cT])) (.consW rfl (.eq (by simp [cT])) (.cons rfl (.cons rfl (.nil _))))
        · rw [if_neg h1] at hp
          rw [← hT_lt] at h1
          by_cases h2 : y < x
          · rw [if_pos h2] at hp
            rw [← hT_lt] at h2
            have hk' := hk false true
            cases hkk : keep false true <;> rw [hkk] at hk' hp
            · repeat' (first
    | ((first | (show AL _ _ _ _ _ _ _ _; refine al_cons rfl ?_) | (show DL _ _ _ _ _ _ _; refine' dl_cons rfl rfl (fun K kk => ?_) ?_; try (show Go.Ts.T; rotate_left))); (first
      | (show AOp _ _ ⟨_, .move _, _, _, _, _⟩ _ _ _; refine r_move hG rfl rfl ?_)
      | (show AOp _ _ ⟨_, .assign _, _, _, _, _⟩ _ _ _; refine r_asg hG rfl rfl ?_)
      | (show AOp _ _ ⟨_, .call ⟨.builtin .len, _, _⟩, _, _, _, _⟩ _ _ _; first | refine r_lenm hG rfl rfl rfl rfl ?_ | refine r_len hG rfl rfl rfl rfl rfl ?_)
      | (show AOp _ _ ⟨_, .binOp .add _ _ _ _, _, _, _, _⟩ _ _ _; first | refine r_ari64 hG rfl rfl rfl rfl rfl (by omega) ?_ | refine r_aru64 hG rfl rfl rfl rfl rfl (by omega) ?_ | refine r_aru8 hG rfl rfl rfl rfl rfl (by omega) ?_ | refine r_aru16 hG rfl rfl rfl rfl rfl (by omega) ?_)
      | (show AOp _ _ ⟨_, .binOp _ _ _ _ _, _, _, _, _⟩ _ _ _; first | refine r_cmpT hG rfl rfl rfl rfl rfl (by omega) ?_ | refine r_cmpF hG rfl rfl rfl rfl rfl (by omega) ?_ | refine r_strT hG rfl rfl rfl rfl (by first | rfl | assumption) ?_ | refine r_strnF hG rfl rfl rfl rfl (by first | rfl | assumption) ?_ | refine r_strF hG rfl rfl rfl rfl (by assumption) ?_ | refine r_strnT hG rfl rfl rfl rfl (by assumption) ?_ | ((fail_if_success have := kk); refine r_cmp hG rfl rfl rfl rfl rfl (fun h => ?_) (fun h => ?_)) | ((fail_if_success have := kk); first | refine r_str hG rfl rfl rfl rfl (fun h => ?_) (fun h => ?_) | refine r_strn hG rfl rfl rfl rfl (fun h => ?_) (fun h => ?_)) | refine r_beq hG rfl rfl rfl rfl rfl ?_ | refine r_bin' hG rfl rfl rfl ?_)
      | (show AOp _ _ ⟨_, .load _ _, _, _, _, _⟩ _ _ _; first | refine r_ldro hG rfl rfl rfl ?_ | refine r_ld 0 hG rfl rfl rfl rfl ?_ | refine r_ld 1 hG rfl rfl rfl rfl ?_ | refine r_ld 2 hG rfl rfl rfl rfl ?_ | refine r_ld 3 hG rfl rfl rfl rfl ?_)
      | (show AOp _ _ ⟨_, .indexAddr _ _ _, _, _, _, _⟩ _ _ _; first | refine r_idx0 hG rfl rfl rfl rfl rfl rfl rfl ?_ | refine r_idxn hG rfl rfl rfl rfl rfl rfl rfl (by omega) ?_ | refine r_idxm hG rfl rfl rfl rfl rfl rfl rfl (by omega) ?_ | refine r_idx hG rfl rfl ?_)
      | (show AOp _ _ ⟨_, .slice _ _ _ _ _, _, _, _, _⟩ _ _ _; first | refine r_sl_lon hG rfl rfl rfl rfl rfl rfl rfl (by omega) ?_ | refine r_sl_hin hG rfl rfl rfl rfl rfl rfl rfl (by omega) ?_ | refine r_sl_lhn hG rfl rfl rfl rfl rfl rfl rfl rfl (by omega) ?_ | refine r_sl_lo hG rfl rfl rfl rfl rfl rfl rfl (by omega) ?_ | refine r_sl_hi hG rfl rfl rfl rfl rfl rfl rfl (by omega) ?_ | refine r_sl_lh hG rfl rfl rfl rfl rfl rfl rfl rfl (by omega) ?_ | refine op_cut0 hG rfl rfl rfl rfl rfl rfl rfl rfl rfl rfl ?_ | refine r_sl hG rfl rfl ?_)
      | (show AOp _ _ ⟨_, .pick _ _ _, _, _, _, _⟩ _ _ _; refine r_pick hG rfl rfl rfl ?_)
      | (show AOp _ _ ⟨_, .buildSlice _ _ _, _, _, _, _⟩ _ _ _; first | refine r_mk (sz := 1) hG rfl rfl rfl rfl rfl rfl rfl ?_ | refine r_mk (sz := 2) hG rfl rfl rfl rfl rfl rfl rfl ?_)
      | (show AOp _ _ ⟨_, .call ⟨.builtin .append, _, _⟩, _, _, _, _⟩ _ _ _; first | refine r_app0m (sz := 1) (xs := []) hG rfl rfl rfl rfl rfl rfl rfl ⟨_, rfl⟩ rfl rfl rfl rfl rfl rfl rfl (by first | omega | (simp; omega)) (fun k => ?_) | refine r_appm 0 hG rfl rfl rfl rfl rfl rfl rfl ⟨_, rfl⟩ rfl rfl rfl rfl rfl (by first | omega | (simp only [List.length_append, List.length_cons, List.length_nil]; omega)) (fun k => ?_) | fail)
      | (show AOp _ _ ⟨_, .call ⟨.value _, _, _⟩, _, _, _, _⟩ _ _ _; first | refine r_pure rfl rfl rfl rfl rfl (by apply hk' <;> (first | assumption | omega | exact bytesT_map _ _ | exact bytesT_s _ | exact catsT_map _ _ | exact catsT_c _ | rfl | (simp; omega))) ?_ | fail)
      | refine r_q hG rfl rfl rfl ?_); try exact kk)
    | (show AL _ _ _ _ _ _ _ _; first | refine al_s rfl rfl rfl ?_ | (refine al_nil ?_; first | show AW _ _ _ _ _ _ | show ∃ x', _ < _ ∧ _)) | (show AW _ _ (.seq _ _) _ _ _; refine aw_seq' ?_; intro Q1) | (show AW _ _ (.region _ _ false) _ _ _; refine aw_regL' ?_; intro O1) | (show AW _ _ (.cond _ _ _) _ _ _; first | refine aw_if_t rfl ?_ | refine aw_if_f rfl ?_) | (show AW _ _ (.skip) _ _ _; refine aw_skip ?_; first | show AW _ _ _ _ _ _ | show ∃ x', _ < _ ∧ _) | (show AW _ _ (.goto _) _ _ _; refine aw_goto ?_; try dsimp only [thenA, inBlockA, jumpA, noGotoA]) | (show AW _ _ (.ret) _ _ _; refine aw_ret ?_; try dsimp only [thenA, inBlockA, jumpA, noGotoA])
    | (show DL _ _ _ _ _ _ _; refine dl_d rfl rfl (fun K kt kf => r_cmp hG rfl rfl rfl rfl rfl kt kf) (fun h => ?_) (fun h => ?_)) | (show DL _ _ _ _ _ _ _; refine dl_d rfl rfl (fun K kt kf => r_str hG rfl rfl rfl rfl kt kf) (fun h => ?_) (fun h => ?_)) | (show DL _ _ _ _ _ _ _; refine dl_ne rfl rfl (fun K kt kf => r_strn hG rfl rfl rfl rfl kt kf) (fun h => ?_) (fun h => ?_))
    | (show DL _ _ _ _ _ _ _; refine dl_s rfl rfl rfl ?_) | (show DL _ _ _ _ _ _ _; refine dl_nil ?_; first | show AW _ _ _ _ _ _ | show ∃ x', _ < _ ∧ _) | (show AW _ _ (.region _ _ true) _ _ _; refine aw_draw' mix (by kernel_rfl) ?_; intro O1) | fail)
              refine ⟨rfl, ⟨x :: a1, b1, pre, k, hp, by simp only [List.length_cons] at *; omega⟩, by simp only [List.length_cons]; omega, ?_, .refl _⟩
              exact .consW rfl (.eq (by simp [cT])) (.consW rfl (.eq (by simp [cT])) (.cons rfl (.cons rfl (.nil _))))
            · repeat' (first
    | ((first | (show AL _ _ _ _ _ _ _ _; refine al_cons rfl ?_) | (show DL _ _ _ _ _ _ _; refine' dl_cons rfl rfl (fun K kk => ?_) ?_; try (show Go.Ts.T; rotate_left))); (first
      | (show AOp _ _ ⟨_, .move _, _, _, _, _⟩ _ _ _; refine r_move hG rfl rfl ?_)
      | (show AOp _ _ ⟨_, .assign _, _, _, _, _⟩ _ _ _; refine r_asg hG rfl rfl ?_)
      | (show AOp _ _ ⟨_, .call ⟨.builtin .len, _, _⟩, _, _, _, _⟩ _ _ _; first | refine r_lenm hG rfl rfl rfl rfl ?_ | refine r_len hG rfl rfl rfl rfl rfl ?_)
      | (show AOp _ _ ⟨_, .binOp .add _ _ _ _, _, _, _, _⟩ _ _ _; first | refine r_ari64 hG rfl rfl rfl rfl rfl (by omega) ?_ | refine r_aru64 hG rfl rfl rfl rfl rfl (by omega) ?_ | refine r_aru8 hG rfl rfl rfl rfl rfl (by omega) ?_ | refine r_aru16 hG rfl rfl rfl rfl rfl (by omega) ?_)
      | (show AOp _ _ ⟨_, .binOp _ _ _ _ _, _, _, _, _⟩ _ _ _; first | refine r_cmpT hG rfl rfl rfl rfl rfl (by omega) ?_ | refine r_cmpF hG rfl rfl rfl rfl rfl (by omega) ?_ | refine r_strT hG rfl rfl rfl rfl (by first | rfl | assumption) ?_ | refine r_strnF hG rfl rfl rfl rfl (by first | rfl | assumption) ?_ | refine r_strF hG rfl rfl rfl rfl (by assumption) ?_ | refine r_strnT hG rfl rfl rfl rfl (by assumption) ?_ | ((fail_if_success have := kk); refine r_cmp hG rfl rfl rfl rfl rfl (fun h => ?_) (fun h => ?_)) | ((fail_if_success have := kk); first | refine r_str hG rfl rfl rfl rfl (fun h => ?_) (fun h => ?_) | refine r_strn hG rfl rfl rfl rfl (fun h => ?_) (fun h => ?_)) | refine r_beq hG rfl rfl rfl rfl rfl ?_ | refine r_bin' hG rfl rfl rfl ?_)
      | (show AOp _ _ ⟨_, .load _ _, _, _, _, _⟩ _ _ _; first | refine r_ldro hG rfl rfl rfl ?_ | refine r_ld 0 hG rfl rfl rfl rfl ?_ | refine r_ld 1 hG rfl rfl rfl rfl ?_ | refine r_ld 2 hG rfl rfl rfl rfl ?_ | refine r_ld 3 hG rfl rfl rfl rfl ?_)
      | (show AOp _ _ ⟨_, .indexAddr _ _ _, _, _, _, _⟩ _ _ _; first | refine r_idx0 hG rfl rfl rfl rfl rfl rfl rfl ?_ | refine r_idxn hG rfl rfl rfl rfl rfl rfl rfl (by omega) ?_ | refine r_idxm hG rfl rfl rfl rfl rfl rfl rfl (by omega) ?_ | refine r_idx hG rfl rfl ?_)
      | (show AOp _ _ ⟨_, .slice _ _ _ _ _, _, _, _, _⟩ _ _ _; first | refine r_sl_lon hG rfl rfl rfl rfl rfl rfl rfl (by omega) ?_ | refine r_sl_hin hG rfl rfl rfl rfl rfl rfl rfl (by omega) ?_ | refine r_sl_lhn hG rfl rfl rfl rfl rfl rfl rfl rfl (by omega) ?_ | refine r_sl_lo hG rfl rfl rfl rfl rfl rfl rfl (by omega) ?_ | refine r_sl_hi hG rfl rfl rfl rfl rfl rfl rfl (by omega) ?_ | refine r_sl_lh hG rfl rfl rfl rfl rfl rfl rfl rfl (by omega) ?_ | refine op_cut0 hG rfl rfl rfl rfl rfl rfl rfl rfl rfl rfl ?_ | refine r_sl hG rfl rfl ?_)
      | (show AOp _ _ ⟨_, .pick _ _ _, _, _, _, _⟩ _ _ _; refine r_pick hG rfl rfl rfl ?_)
      | (show AOp _ _ ⟨_, .buildSlice _ _ _, _, _, _, _⟩ _ _ _; first | refine r_mk (sz := 1) hG rfl rfl rfl rfl rfl rfl rfl ?_ | refine r_mk (sz := 2) hG rfl rfl rfl rfl rfl rfl rfl ?_)
      | (show AOp _ _ ⟨_, .call ⟨.builtin .append, _, _⟩, _, _, _, _⟩ _ _ _; first | refine r_appm 0 (ys := [y]) hG rfl rfl rfl rfl rfl rfl rfl ⟨_, rfl⟩ rfl rfl rfl rfl rfl (by simp only [List.length_append, List.length_map, List.length_cons, List.length_nil]; omega) (fun k => ?_) | refine r_app0m (sz := 1) (xs := []) hG rfl rfl rfl rfl rfl rfl rfl ⟨_, rfl⟩ rfl rfl rfl rfl rfl rfl rfl (by first | omega | (simp; omega)) (fun k => ?_) | refine r_appm 0 hG rfl rfl rfl rfl rfl rfl rfl ⟨_, rfl⟩ rfl rfl rfl rfl rfl (by first | omega | (simp only [List.length_append, List.length_cons, List.length_nil]; omega)) (fun k => ?_) | fail)
      | (show AOp _ _ ⟨_, .call ⟨.value _, _, _⟩, _, _, _, _⟩ _ _ _; first | refine r_pure rfl rfl rfl rfl rfl (by apply hk' <;> (first | assumption | omega | exact bytesT_map _ _ | exact bytesT_s _ | exact catsT_map _ _ | exact catsT_c _ | rfl | (simp; omega))) ?_ | fail)
      | refine r_q hG rfl rfl rfl ?_); try exact kk)
    | (show AL _ _ _ _ _ _ _ _; first | refine al_s rfl rfl rfl ?_ | (refine al_nil ?_; first | show AW _ _ _ _ _ _ | show ∃ x', _ < _ ∧ _)) | (show AW _ _ (.seq _ _) _ _ _; refine aw_seq' ?_; intro Q1) | (show AW _ _ (.region _ _ false) _ _ _; refine aw_regL' ?_; intro O1) | (show AW _ _ (.cond _ _ _) _ _ _; first | refine aw_if_t rfl ?_ | refine aw_if_f rfl ?_) | (show AW _ _ (.skip) _ _ _; refine aw_skip ?_; first | show AW _ _ _ _ _ _ | show ∃ x', _ < _ ∧ _) | (show AW _ _ (.goto _) _ _ _; refine aw_goto ?_; try dsimp only [thenA, inBlockA, jumpA, noGotoA]) | (show AW _ _ (.ret) _ _ _; refine aw_ret ?_; try dsimp only [thenA, inBlockA, jumpA, noGotoA])
    | (show DL _ _ _ _ _ _ _; refine dl_d rfl rfl (fun K kt kf => r_cmp hG rfl rfl rfl rfl rfl kt kf) (fun h => ?_) (fun h => ?_)) | (show DL _ _ _ _ _ _ _; refine dl_d rfl rfl (fun K kt kf => r_str hG rfl rfl rfl rfl kt kf) (fun h => ?_) (fun h => ?_)) | (show DL _ _ _ _ _ _ _; refine dl_ne rfl rfl (fun K kt kf => r_strn hG rfl rfl rfl rfl kt kf) (fun h => ?_) (fun h => ?_))
    | (show DL _ _ _ _ _ _ _; refine dl_s rfl rfl rfl ?_) | (show DL _ _ _ _ _ _ _; refine dl_nil ?_; first | show AW _ _ _ _ _ _ | show ∃ x', _ < _ ∧ _) | (show AW _ _ (.region _ _ true) _ _ _; refine aw_draw' mix (by kernel_rfl) ?_; intro O1) | fail)
              refine ⟨rfl, ⟨x :: a1, b1, pre ++ [y], _, by simpa using hp, by simp only [List.length_cons, List.length_append, List.length_nil] at *; omega⟩, by simp only [List.length_cons]; omega, ?_, .refl _⟩
              exact .consW rfl (.eq (by simp [cT])) (.consW rfl (.eq (by simp [cT])) (.cons rfl (.cons rfl (.nil _))))
          · rw [if_neg h2] at hp
            rw [← hT_lt] at h2
            have hk' := hk true true
            cases hkk : keep true true <;> rw [hkk] at hk' hp
            · repeat' (first
    | ((first | (show AL _ _ _ _ _ _ _ _; refine al_cons rfl ?_) | (show DL _ _ _ _ _ _ _; refine' dl_cons rfl rfl (fun K kk => ?_) ?_; try (show Go.Ts.T; rotate_left))); (first
      | (show AOp _ _ ⟨_, .move _, _, _, _, _⟩ _ _ _; refine r_move hG rfl rfl ?_)
      | (show AOp _ _ ⟨_, .assign _, _, _, _, _⟩ _ _ _; refine r_asg hG rfl rfl ?_)
      | (show AOp _ _ ⟨_, .call ⟨.builtin .len, _, _⟩, _, _, _, _⟩ _ _ _; first | refine r_lenm hG rfl rfl rfl rfl ?_ | refine r_len hG rfl rfl rfl rfl rfl ?_)
      | (show AOp _ _ ⟨_, .binOp .add _ _ _ _, _, _, _, _⟩ _ _ _; first | refine r_ari64 hG rfl rfl rfl rfl rfl (by omega) ?_ | refine r_aru64 hG rfl rfl rfl rfl rfl (by omega) ?_ | refine r_aru8 hG rfl rfl rfl rfl rfl (by omega) ?_ | refine r_aru16 hG rfl rfl rfl rfl rfl (by omega) ?_)
      | (show AOp _ _ ⟨_, .binOp _ _ _ _ _, _, _, _, _⟩ _ _ _; first | refine r_cmpT hG rfl rfl rfl rfl rfl (by omega) ?_ | refine r_cmpF hG rfl rfl rfl rfl rfl (by omega) ?_ | refine r_strT hG rfl rfl rfl rfl (by first | rfl | assumption) ?_ | refine r_strnF hG rfl rfl rfl rfl (by first | rfl | assumption) ?_ | refine r_strF hG rfl rfl rfl rfl (by assumption) ?_ | refine r_strnT hG rfl rfl rfl rfl (by assumption) ?_ | ((fail_if_success have := kk); refine r_cmp hG rfl rfl rfl rfl rfl (fun h => ?_) (fun h => ?_)) | ((fail_if_success have := kk); first | refine r_str hG rfl rfl rfl rfl (fun h => ?_) (fun h => ?_) | refine r_strn hG rfl rfl rfl rfl (fun h => ?_) (fun h => ?_)) | refine r_beq hG rfl rfl rfl rfl rfl ?_ | refine r_bin' hG rfl rfl rfl ?_)
      | (show AOp _ _ ⟨_, .load _ _, _, _, _, _⟩ _ _ _; first | refine r_ldro hG rfl rfl rfl ?_ | refine r_ld 0 hG rfl rfl rfl rfl ?_ | refine r_ld 1 hG rfl rfl rfl rfl ?_ | refine r_ld 2 hG rfl rfl rfl rfl ?_ | refine r_ld 3 hG rfl rfl rfl rfl ?_)
      | (show AOp _ _ ⟨_, .indexAddr _ _ _, _, _, _, _⟩ _ _ _; first | refine r_idx0 hG rfl rfl rfl rfl rfl rfl rfl ?_ | refine r_idxn hG rfl rfl rfl rfl rfl rfl rfl (by omega) ?_ | refine r_idxm hG rfl rfl rfl rfl rfl rfl rfl (by omega) ?_ | refine r_idx hG rfl rfl ?_)
      | (show AOp _ _ ⟨_, .slice _ _ _ _ _, _, _, _, _⟩ _ _ _; first | refine r_sl_lon hG rfl rfl rfl rfl rfl rfl rfl (by omega) ?_ | refine r_sl_hin hG rfl rfl rfl rfl rfl rfl rfl (by omega) ?_ | refine r_sl_lhn hG rfl rfl rfl rfl rfl rfl rfl rfl (by omega) ?_ | refine r_sl_lo hG rfl rfl rfl rfl rfl rfl rfl (by omega) ?_ | refine r_sl_hi hG rfl rfl rfl rfl rfl rfl rfl (by omega) ?_ | refine r_sl_lh hG rfl rfl rfl rfl rfl rfl rfl rfl (by omega) ?_ | refine op_cut0 hG rfl rfl rfl rfl rfl rfl rfl rfl rfl rfl ?_ | refine r_sl hG rfl rfl ?_)
      | (show AOp _ _ ⟨_, .pick _ _ _, _, _, _, _⟩ _ _ _; refine r_pick hG rfl rfl rfl ?_)
      | (show AOp _ _ ⟨_, .buildSlice _ _ _, _, _, _, _⟩ _ _ _; first | refine r_mk (sz := 1) hG rfl rfl rfl rfl rfl rfl rfl ?_ | refine r_mk (sz := 2) hG rfl rfl rfl rfl rfl rfl rfl ?_)
      | (show AOp _ _ ⟨_, .call ⟨.builtin .append, _, _⟩, _, _, _, _⟩ _ _ _; first | refine r_app0m (sz := 1) (xs := []) hG rfl rfl rfl rfl rfl rfl rfl ⟨_, rfl⟩ rfl rfl rfl rfl rfl rfl rfl (by first | omega | (simp; omega)) (fun k => ?_) | refine r_appm 0 hG rfl rfl rfl rfl rfl rfl rfl ⟨_, rfl⟩ rfl rfl rfl rfl rfl (by first | omega | (simp only [List.length_append, List.length_cons, List.length_nil]; omega)) (fun k => ?_) | fail)
      | (show AOp _ _ ⟨_, .call ⟨.value _, _, _⟩, _, _, _, _⟩ _ _ _; first | refine r_pure rfl rfl rfl rfl rfl (by apply hk' <;> (first | assumption | omega | exact bytesT_map _ _ | exact bytesT_s _ | exact catsT_map _ _ | exact catsT_c _ | rfl | (simp; omega))) ?_ | fail)
      | refine r_q hG rfl rfl rfl ?_); try exact kk)
    | (show AL _ _ _ _ _ _ _ _; first | refine al_s rfl rfl rfl ?_ | (refine al_nil ?_; first | show AW _ _ _ _ _ _ | show ∃ x', _ < _ ∧ _)) | (show AW _ _ (.seq _ _) _ _ _; refine aw_seq' ?_; intro Q1) | (show AW _ _ (.region _ _ false) _ _ _; refine aw_regL' ?_; intro O1) | (show AW _ _ (.cond _ _ _) _ _ _; first | refine aw_if_t rfl ?_ | refine aw_if_f rfl ?_) | (show AW _ _ (.skip) _ _ _; refine aw_skip ?_; first | show AW _ _ _ _ _ _ | show ∃ x', _ < _ ∧ _) | (show AW _ _ (.goto _) _ _ _; refine aw_goto ?_; try dsimp only [thenA, inBlockA, jumpA, noGotoA]) | (show AW _ _ (.ret) _ _ _; refine aw_ret ?_; try dsimp only [thenA, inBlockA, jumpA, noGotoA])
    | (show DL _ _ _ _ _ _ _; refine dl_d rfl rfl (fun K kt kf => r_cmp hG rfl rfl rfl rfl rfl kt kf) (fun h => ?_) (fun h => ?_)) | (show DL _ _ _ _ _ _ _; refine dl_d rfl rfl (fun K kt kf => r_str hG rfl rfl rfl rfl kt kf) (fun h => ?_) (fun h => ?_)) | (show DL _ _ _ _ _ _ _; refine dl_ne rfl rfl (fun K kt kf => r_strn hG rfl rfl rfl rfl kt kf) (fun h => ?_) (fun h => ?_))
    | (show DL _ _ _ _ _ _ _; refine dl_s rfl rfl rfl ?_) | (show DL _ _ _ _ _ _ _; refine dl_nil ?_; first | show AW _ _ _ _ _ _ | show ∃ x', _ < _ ∧ _) | (show AW _ _ (.region _ _ true) _ _ _; refine aw_draw' mix (by kernel_rfl) ?_; intro O1) | fail)
              refine ⟨rfl, ⟨a1, b1, pre, k, hp, by simp only [List.length_cons] at *; omega⟩, by simp only [List.length_cons]; omega, ?_, .refl _⟩
              exact .consW rfl (.eq (by simp [cT])) (.consW rfl (.eq (by simp [cT])) (.cons rfl (.cons rfl (.nil _))))
            · repeat' (first
    | ((first | (show AL _ _ _ _ _ _ _ _; refine al_cons rfl ?_) | (show DL _ _ _ _ _ _ _; refine' dl_cons rfl rfl (fun K kk => ?_) ?_; try (show Go.Ts.T; rotate_left))); (first
      | (show AOp _ _ ⟨_, .move _, _, _, _, _⟩ _ _ _; refine r_move hG rfl rfl ?_)
      | (show AOp _ _ ⟨_, .assign _, _, _, _, _⟩ _ _ _; refine r_asg hG rfl rfl ?_)
      | (show AOp _ _ ⟨_, .call ⟨.builtin .len, _, _⟩, _, _, _, _⟩ _ _ _; first | refine r_lenm hG rfl rfl rfl rfl ?_ | refine r_len hG rfl rfl rfl rfl rfl ?_)
      | (show AOp _ _ ⟨_, .binOp .add _ _ _ _, _, _, _, _⟩ _ _ _; first | refine r_ari64 hG rfl rfl rfl rfl rfl (by omega) ?_ | refine r_aru64 hG rfl rfl rfl rfl rfl (by omega) ?_ | refine r_aru8 hG rfl rfl rfl rfl rfl (by omega) ?_ | refine r_aru16 hG rfl rfl rfl rfl rfl (by omega) ?_)
      | (show AOp _ _ ⟨_, .binOp _ _ _ _ _, _, _, _, _⟩ _ _ _; first | refine r_cmpT hG rfl rfl rfl rfl rfl (by omega) ?_ | refine r_cmpF hG rfl rfl rfl rfl rfl (by omega) ?_ | refine r_strT hG rfl rfl rfl rfl (by first | rfl | assumption) ?_ | refine r_strnF hG rfl rfl rfl rfl (by first | rfl | assumption) ?_ | refine r_strF hG rfl rfl rfl rfl (by assumption) ?_ | refine r_strnT hG rfl rfl rfl rfl (by assumption) ?_ | ((fail_if_success have := kk); refine r_cmp hG rfl rfl rfl rfl rfl (fun h => ?_) (fun h => ?_)) | ((fail_if_success have := kk); first | refine r_str hG rfl rfl rfl rfl (fun h => ?_) (fun h => ?_) | refine r_strn hG rfl rfl rfl rfl (fun h => ?_) (fun h => ?_)) | refine r_beq hG rfl rfl rfl rfl rfl ?_ | refine r_bin' hG rfl rfl rfl ?_)
      | (show AOp _ _ ⟨_, .load _ _, _, _, _, _⟩ _ _ _; first | refine r_ldro hG rfl rfl rfl ?_ | refine r_ld 0 hG rfl rfl rfl rfl ?_ | refine r_ld 1 hG rfl rfl rfl rfl ?_ | refine r_ld 2 hG rfl rfl rfl rfl ?_ | refine r_ld 3 hG rfl rfl rfl rfl ?_)
      | (show AOp _ _ ⟨_, .indexAddr _ _ _, _, _, _, _⟩ _ _ _; first | refine r_idx0 hG rfl rfl rfl rfl rfl rfl rfl ?_ | refine r_idxn hG rfl rfl rfl rfl rfl rfl rfl (by omega) ?_ | refine r_idxm hG rfl rfl rfl rfl rfl rfl rfl (by omega) ?_ | refine r_idx hG rfl rfl ?_)
      | (show AOp _ _ ⟨_, .slice _ _ _ _ _, _, _, _, _⟩ _ _ _; first | refine r_sl_lon hG rfl rfl rfl rfl rfl rfl rfl (by omega) ?_ | refine r_sl_hin hG rfl rfl rfl rfl rfl rfl rfl (by omega) ?_ | refine r_sl_lhn hG rfl rfl rfl rfl rfl rfl rfl rfl (by omega) ?_ | refine r_sl_lo hG rfl rfl rfl rfl rfl rfl rfl (by omega) ?_ | refine r_sl_hi hG rfl rfl rfl rfl rfl rfl rfl (by omega) ?_ | refine r_sl_lh hG rfl rfl rfl rfl rfl rfl rfl rfl (by omega) ?_ | refine op_cut0 hG rfl rfl rfl rfl rfl rfl rfl rfl rfl rfl ?_ | refine r_sl hG rfl rfl ?_)
      | (show AOp _ _ ⟨_, .pick _ _ _, _, _, _, _⟩ _ _ _; refine r_pick hG rfl rfl rfl ?_)
      | (show AOp _ _ ⟨_, .buildSlice _ _ _, _, _, _, _⟩ _ _ _; first | refine r_mk (sz := 1) hG rfl rfl rfl rfl rfl rfl rfl ?_ | refine r_mk (sz := 2) hG rfl rfl rfl rfl rfl rfl rfl ?_)
      | (show AOp _ _ ⟨_, .call ⟨.builtin .append, _, _⟩, _, _, _, _⟩ _ _ _; first | refine r_appm 0 (ys := [x]) hG rfl rfl rfl rfl rfl rfl rfl ⟨_, rfl⟩ rfl rfl rfl rfl rfl (by simp only [List.length_append, List.length_map, List.length_cons, List.length_nil]; omega) (fun k => ?_) | refine r_app0m (sz := 1) (xs := []) hG rfl rfl rfl rfl rfl rfl rfl ⟨_, rfl⟩ rfl rfl rfl rfl rfl rfl rfl (by first | omega | (simp; omega)) (fun k => ?_) | refine r_appm 0 hG rfl rfl rfl rfl rfl rfl rfl ⟨_, rfl⟩ rfl rfl rfl rfl rfl (by first | omega | (simp only [List.length_append, List.length_cons, List.length_nil]; omega)) (fun k => ?_) | fail)
      | (show AOp _ _ ⟨_, .call ⟨.value _, _, _⟩, _, _, _, _⟩ _ _ _; first | refine r_pure rfl rfl rfl rfl rfl (by apply hk' <;> (first | assumption | omega | exact bytesT_map _ _ | exact bytesT_s _ | exact catsT_map _ _ | exact catsT_c _ | rfl | (simp; omega))) ?_ | fail)
      | refine r_q hG rfl rfl rfl ?_); try exact kk)
    | (show AL _ _ _ _ _ _ _ _; first | refine al_s rfl rfl rfl ?_ | (refine al_nil ?_; first | show AW _ _ _ _ _ _ | show ∃ x', _ < _ ∧ _)) | (show AW _ _ (.seq _ _) _ _ _; refine aw_seq' ?_; intro Q1) | (show AW _ _ (.region _ _ false) _ _ _; refine aw_regL' ?_; intro O1) | (show AW _ _ (.cond _ _ _) _ _ _; first | refine aw_if_t rfl ?_ | refine aw_if_f rfl ?_) | (show AW _ _ (.skip) _ _ _; refine aw_skip ?_; first | show AW _ _ _ _ _ _ | show ∃ x', _ < _ ∧ _) | (show AW _ _ (.goto _) _ _ _; refine aw_goto ?_; try dsimp only [thenA, inBlockA, jumpA, noGotoA]) | (show AW _ _ (.ret) _ _ _; refine aw_ret ?_; try dsimp only [thenA, inBlockA, jumpA, noGotoA])
    | (show DL _ _ _ _ _ _ _; refine dl_d rfl rfl (fun K kt kf => r_cmp hG rfl rfl rfl rfl rfl kt kf) (fun h => ?_) (fun h => ?_)) | (show DL _ _ _ _ _ _ _; refine dl_d rfl rfl (fun K kt kf => r_str hG rfl rfl rfl rfl kt kf) (fun h => ?_) (fun h => ?_)) | (show DL _ _ _ _ _ _ _; refine dl_ne rfl rfl (fun K kt kf => r_strn hG rfl rfl rfl rfl kt kf) (fun h => ?_) (fun h => ?_))
    | (show DL _ _ _ _ _ _ _; refine dl_s rfl rfl rfl ?_) | (show DL _ _ _ _ _ _ _; refine dl_nil ?_; first | show AW _ _ _ _ _ _ | show ∃ x', _ < _ ∧ _) | (show AW _ _ (.region _ _ true) _ _ _; refine aw_draw' mix (by kernel_rfl) ?_; intro O1) | fail)
              refine ⟨rfl, ⟨a1, b1, pre ++ [x], _, by simpa using hp, by simp only [List.length_cons, List.length_append, List.length_nil] at *; omega⟩, by simp only [List.length_cons]; omega, ?_, .refl _⟩
              exact .consW rfl (.eq (by simp [cT])) (.consW rfl (.eq (by simp [cT])) (.cons rfl (.cons rfl (.nil _))))
  · intro key
    repeat' (first
    | ((first | (show AL _ _ _ _ _ _ _ _; refine al_cons rfl ?_) | (show DL _ _ _ _ _ _ _; refine' dl_cons rfl rfl (fun K kk => ?_) ?_; try (show Go.Ts.T; rotate_left))); (first
      | (show AOp _ _ ⟨_, .move _, _, _, _, _⟩ _ _ _; refine r_move hG rfl rfl ?_)
      | (show AOp _ _ ⟨_, .assign _, _, _, _, _⟩ _ _ _; refine r_asg hG rfl rfl ?_)
      | (show AOp _ _ ⟨_, .call ⟨.builtin .len, _, _⟩, _, _, _, _⟩ _ _ _; first | refine r_lenm hG rfl rfl rfl rfl ?_ | refine r_len hG rfl rfl rfl rfl rfl ?_)
      | (show AOp _ _ ⟨_, .binOp .add _ _ _ _, _, _, _, _⟩ _ _ _; first | refine r_ari64 hG rfl rfl rfl rfl rfl (by omega) ?_ | refine r_aru64 hG rfl rfl rfl rfl rfl (by omega) ?_ | refine r_aru8 hG rfl rfl rfl rfl rfl (by omega) ?_ | refine r_aru16 hG rfl rfl rfl rfl rfl (by omega) ?_)
      | (show AOp _ _ ⟨_, .binOp _ _ _ _ _, _, _, _, _⟩ _ _ _; first | refine r_cmpT hG rfl rfl rfl rfl rfl (by omega) ?_ | refine r_cmpF hG rfl rfl rfl rfl rfl (by omega) ?_ | refine r_strT hG rfl rfl rfl rfl (by first | rfl | assumption) ?_ | refine r_strnF hG rfl rfl rfl rfl (by first | rfl | assumption) ?_ | refine r_strF hG rfl rfl rfl rfl (by assumption) ?_ | refine r_strnT hG rfl rfl rfl rfl (by assumption) ?_ | ((fail_if_success have := kk); refine r_cmp hG rfl rfl rfl rfl rfl (fun h => ?_) (fun h => ?_)) | ((fail_if_success have := kk); first | refine r_str hG rfl rfl rfl rfl (fun h => ?_) (fun h => ?_) | refine r_strn hG rfl rfl rfl rfl (fun h => ?_) (fun h => ?_)) | refine r_beq hG rfl rfl rfl rfl rfl ?_ | refine r_bin' hG rfl rfl rfl ?_)
      | (show AOp _ _ ⟨_, .load _ _, _, _, _, _⟩ _ _ _; first | refine r_ldro hG rfl rfl rfl ?_ | refine r_ld 0 hG rfl rfl rfl rfl ?_ | refine r_ld 1 hG rfl rfl rfl rfl ?_ | refine r_ld 2 hG rfl rfl rfl rfl ?_ | refine r_ld 3 hG rfl rfl rfl rfl ?_)
      | (show AOp _ _ ⟨_, .indexAddr _ _ _, _, _, _, _⟩ _ _ _; first | refine r_idx0 hG rfl rfl rfl rfl rfl rfl rfl ?_ | refine r_idxn hG rfl rfl rfl rfl rfl rfl rfl (by omega) ?_ | refine r_idxm hG rfl rfl rfl rfl rfl rfl rfl (by omega) ?_ | refine r_idx hG rfl rfl ?_)
      | (show AOp _ _ ⟨_, .slice _ _ _ _ _, _, _, _, _⟩ _ _ _; first | refine r_sl_lon hG rfl rfl rfl rfl rfl rfl rfl (by omega) ?_ | refine r_sl_hin hG rfl rfl rfl rfl rfl rfl rfl (by omega) ?_ | refine r_sl_lhn hG rfl rfl rfl rfl rfl rfl rfl rfl (by omega) ?_ | refine r_sl_lo hG rfl rfl rfl rfl rfl rfl rfl (by omega) ?_ | refine r_sl_hi hG rfl rfl rfl rfl rfl rfl rfl (by omega) ?_ | refine r_sl_lh hG rfl rfl rfl rfl rfl rfl rfl rfl (by omega) ?_ | refine op_cut0 hG rfl rfl rfl rfl rfl rfl rfl rfl rfl rfl ?_ | refine r_sl hG rfl rfl ?_)
      | (show AOp _ _ ⟨_, .pick _ _ _, _, _, _, _⟩ _ _ _; refine r_pick hG rfl rfl rfl ?_)
      | (show AOp _ _ ⟨_, .buildSlice _ _ _, _, _, _, _⟩ _ _ _; first | refine r_mk (sz := 1) hG rfl rfl rfl rfl rfl rfl rfl ?_ | refine r_mk (sz := 2) hG rfl rfl rfl rfl rfl rfl rfl ?_)
      | (show AOp _ _ ⟨_, .call ⟨.builtin .append, _, _⟩, _, _, _, _⟩ _ _ _; first | refine r_app0m (sz := 1) (xs := []) hG rfl rfl rfl rfl rfl rfl rfl ⟨_, rfl⟩ rfl rfl rfl rfl rfl rfl rfl (by first | omega | (simp; omega)) (fun k => ?_) | refine r_appm 0 hG rfl rfl rfl rfl rfl rfl rfl ⟨_, rfl⟩ rfl rfl rfl rfl rfl (by first | omega | (simp only [List.length_append, List.length_cons, List.length_nil]; omega)) (fun k => ?_) | fail)
      | refine r_q hG rfl rfl rfl ?_); try exact kk)
    | (show AL _ _ _ _ _ _ _ _; first | refine al_s rfl rfl rfl ?_ | (refine al_nil ?_; first | show AW _ _ _ _ _ _ | show ∃ x', _ < _ ∧ _)) | (show AW _ _ (.seq _ _) _ _ _; refine aw_seq' ?_; intro Q1) | (show AW _ _ (.region _ _ false) _ _ _; refine aw_regL' ?_; intro O1) | (show AW _ _ (.cond _ _ _) _ _ _; first | refine aw_if_t rfl ?_ | refine aw_if_f rfl ?_) | (show AW _ _ (.skip) _ _ _; refine aw_skip ?_; first | show AW _ _ _ _ _ _ | show ∃ x', _ < _ ∧ _) | (show AW _ _ (.goto _) _ _ _; refine aw_goto ?_; try dsimp only [thenA, inBlockA, jumpA, noGotoA]) | (show AW _ _ (.ret) _ _ _; refine aw_ret ?_; try dsimp only [thenA, inBlockA, jumpA, noGotoA])
    | (show DL _ _ _ _ _ _ _; refine dl_d rfl rfl (fun K kt kf => r_cmp hG rfl rfl rfl rfl rfl kt kf) (fun h => ?_) (fun h => ?_)) | (show DL _ _ _ _ _ _ _; refine dl_d rfl rfl (fun K kt kf => r_str hG rfl rfl rfl rfl kt kf) (fun h => ?_) (fun h => ?_)) | (show DL _ _ _ _ _ _ _; refine dl_ne rfl rfl (fun K kt kf => r_strn hG rfl rfl rfl rfl kt kf) (fun h => ?_) (fun h => ?_))
    | (show DL _ _ _ _ _ _ _; refine dl_s rfl rfl rfl ?_) | (show DL _ _ _ _ _ _ _; refine dl_nil ?_; first | show AW _ _ _ _ _ _ | show ∃ x', _ < _ ∧ _) | (show AW _ _ (.region _ _ true) _ _ _; refine aw_draw' mix (by kernel_rfl) ?_; intro O1) | fail)
    refine aw_label ?_
    show AW _ _ _ _ _ _
    refine aw_tok0 7 1 rfl rfl rfl rfl (fun k => ?_)
    refine aw_forget ?_ (key ⟨a, b, [], k, rfl, by simp⟩)
    exact .cons rfl (.cons rfl (.cons rfl (.cons rfl (.nil _))))
end Go.Proofs.Ytholeicgmkjadaa
namespace Go.Proofs.Ytholeicgmkjadaa
open Go.Ts Go.Sets
attribute [local irreducible] Go.Ts.AW Go.Ts.AOps Go.Ts.AL Go.Ts.AOp Go.Ts.ACalls Go.Ts.DL
theorem drop_tok {k : Nat} {R' : List Nat} {off : Nat → Nat → Prop} : Go.Ts.GStep ⟨[], k :: R', off, none⟩ ⟨[], [k], off, none⟩ :=
  keep_step (σ := ⟨[], k :: R', off, none⟩) (List.Sublist.refl _) (List.singleton_sublist.2 (by simp))
theorem rises_adj : ∀ l : List UInt16, risesB l = true ↔ ∀ j, j + 1 < l.length → l.getD j default < l.getD (j + 1) default
  | [] => by simp [risesB]
  | [x] => by simp [risesB]
  | x :: y :: r => by
    rw [risesB, Bool.and_eq_true, decide_eq_true_eq, rises_adj (y :: r)]
    constructor
    · rintro ⟨h1, h2⟩ j hj
      cases j with
      | zero => simpa using h1
      | succ j => have := h2 j (by simp at hj ⊢; omega); simpa using this
    · intro h
      refine ⟨by have := h 0 (by simp); simpa using this, fun j hj => ?_⟩
      have := h (j + 1) (by simp at hj ⊢; omega); simpa using this

theorem cats_Or1 (i t : Bool) : Pure Try.prog 77 [.bool i, .bool t] (.bool (kOr i t)) := by
  intro off
  refine acalls_mk (N := 5) (rs := [.tmp 4]) hG Try.func77 rfl rfl rfl rfl rfl ?_
  repeat' (first
    | ((show AL _ _ _ _ _ _ _ _; refine al_cons rfl ?_); (first
      | (show AOp _ _ ⟨_, .assign _, _, _, _, _⟩ _ _ _; refine r_asg hG rfl rfl ?_)
      | refine r_q hG rfl rfl rfl ?_))
    | (show AL _ _ _ _ _ _ _ _; first | refine al_s rfl rfl rfl ?_ | (refine al_nil ?_; first | show AW _ _ _ _ _ _ | show ∃ x', _ < _ ∧ _)) | (show AW _ _ (.seq _ _) _ _ _; refine aw_seq' ?_; intro Q1) | (show AW _ _ (.region _ _ false) _ _ _; refine aw_regL' ?_; intro O1) | (show AW _ _ (.ret) _ _ _; refine aw_ret ?_; try dsimp only [thenA, inBlockA, jumpA, noGotoA]) | fail)
  exact ret_pure (res_tmp rfl res_nil) (.refl _) rfl
theorem cats_Or {x y : T} {a b : List UInt16} (hx : catsT x = some a) (hy : catsT y = some b) (hl : a.length + b.length ≤ 4294967000) :
    Owns Try.prog 47 [x, y] 1 ((mergeK kOr a b).map hT) := by
  refine Owns.weak (us := [cT a, cT b]) ?_ (wk2 (catsT_wk hx) (catsT_wk hy))
  intro off
  refine acalls_mk (N := 8) (rs := [.tmp 4]) hG Try.func47 rfl rfl rfl rfl rfl ?_
  have hc := merge_any cats_Or1 (catsT_c a) (catsT_c b) hl
  repeat' (first
    | ((show AL _ _ _ _ _ _ _ _; refine al_cons rfl ?_); (first
      | (show AOp _ _ ⟨_, .move _, _, _, _, _⟩ _ _ _; refine r_move hG rfl rfl ?_)
      | (show AOp _ _ ⟨_, .assign _, _, _, _, _⟩ _ _ _; refine r_asg hG rfl rfl ?_)
      | (show AOp _ _ ⟨_, .call ⟨.value _, _, _⟩, _, _, _, _⟩ _ _ _; first | (refine r_owns rfl rfl rfl rfl rfl (by apply hc <;> (first | assumption | omega | exact bytesT_map _ _ | exact bytesT_s _ | exact catsT_map _ _ | exact catsT_c _ | rfl | (simp; omega))) (fun k => ?_)) | (have := kk; clear this; refine r_pure rfl rfl rfl rfl rfl (Owns.pure (by apply hc <;> (first | assumption | omega | exact bytesT_map _ _ | exact bytesT_s _ | exact catsT_map _ _ | exact catsT_c _ | rfl | (simp; omega)))) ?_) | fail)
      | refine r_q hG rfl rfl rfl ?_))
    | (show AL _ _ _ _ _ _ _ _; first | refine al_s rfl rfl rfl ?_ | (refine al_nil ?_; first | show AW _ _ _ _ _ _ | show ∃ x', _ < _ ∧ _)) | (show AW _ _ (.seq _ _) _ _ _; refine aw_seq' ?_; intro Q1) | (show AW _ _ (.region _ _ false) _ _ _; refine aw_regL' ?_; intro O1) | (show AW _ _ (.ret) _ _ _; refine aw_ret ?_; try dsimp only [thenA, inBlockA, jumpA, noGotoA]) | fail)
  exact ret_owns 0 (res_tmp rfl res_nil) rfl rfl rfl

structure RiX (a : List UInt16) where
  i : Nat
  hi : 1 ≤ i
  hp : ∀ j, j + 1 < i → j + 1 < a.length → a.getD j default < a.getD (j + 1) default
theorem cats_rises {x : T} {a : List UInt16} (hx : catsT x = some a) (hl : a.length ≤ 140737488351232) : Pure Try.prog 73 [x] (.bool (risesB a)) := by
  refine Pure.weak (us := [cT a]) ?_ (wk1 (catsT_wk hx))
  intro off
  refine acalls_mk (N := 20) (rs := [.tmp 2]) hG Try.func73 rfl rfl rfl rfl rfl ?_
  repeat' (first
    | ((first | (show AL _ _ _ _ _ _ _ _; refine al_cons rfl ?_) | (show DL _ _ _ _ _ _ _; refine' dl_cons rfl rfl (fun K kk => ?_) ?_; try (show Go.Ts.T; rotate_left))); (first
      | (show AOp _ _ ⟨_, .move _, _, _, _, _⟩ _ _ _; refine r_move hG rfl rfl ?_)
      | (show AOp _ _ ⟨_, .assign _, _, _, _, _⟩ _ _ _; refine r_asg hG rfl rfl ?_)
      | (show AOp _ _ ⟨_, .call ⟨.builtin .len, _, _⟩, _, _, _, _⟩ _ _ _; first | refine r_lenm hG rfl rfl rfl rfl ?_ | refine r_len hG rfl rfl rfl rfl rfl ?_)
      | (show AOp _ _ ⟨_, .binOp .add _ _ _ _, _, _, _, _⟩ _ _ _; first | refine r_ari64 hG rfl rfl rfl rfl rfl (by omega) ?_ | refine r_aru64 hG rfl rfl rfl rfl rfl (by omega) ?_ | refine r_aru8 hG rfl rfl rfl rfl rfl (by omega) ?_ | refine r_aru16 hG rfl rfl rfl rfl rfl (by omega) ?_)
      | (show AOp _ _ ⟨_, .binOp .sub _ _ _ _, _, _, _, _⟩ _ _ _; first | refine r_ari64 hG rfl rfl rfl rfl rfl (by omega) ?_ | refine r_aru64 hG rfl rfl rfl rfl rfl (by omega) ?_ | refine r_aru8 hG rfl rfl rfl rfl rfl (by omega) ?_ | refine r_aru16 hG rfl rfl rfl rfl rfl (by omega) ?_)
      | (show AOp _ _ ⟨_, .binOp _ _ _ _ _, _, _, _, _⟩ _ _ _; first | refine r_cmpT hG rfl rfl rfl rfl rfl (by omega) ?_ | refine r_cmpF hG rfl rfl rfl rfl rfl (by omega) ?_ | refine r_strT hG rfl rfl rfl rfl (by first | rfl | assumption) ?_ | refine r_strnF hG rfl rfl rfl rfl (by first | rfl | assumption) ?_ | refine r_strF hG rfl rfl rfl rfl (by assumption) ?_ | refine r_strnT hG rfl rfl rfl rfl (by assumption) ?_ | ((fail_if_success have := kk); refine r_cmp hG rfl rfl rfl rfl rfl (fun h => ?_) (fun h => ?_)) | ((fail_if_success have := kk); first | refine r_str hG rfl rfl rfl rfl (fun h => ?_) (fun h => ?_) | refine r_strn hG rfl rfl rfl rfl (fun h => ?_) (fun h => ?_)) | refine r_beq hG rfl rfl rfl rfl rfl ?_ | refine r_bin' hG rfl rfl rfl ?_)
      | (show AOp _ _ ⟨_, .load _ _, _, _, _, _⟩ _ _ _; first | refine r_ldro hG rfl rfl rfl ?_ | refine r_ld 0 hG rfl rfl rfl rfl ?_ | refine r_ld 1 hG rfl rfl rfl rfl ?_ | refine r_ld 2 hG rfl rfl rfl rfl ?_ | refine r_ld 3 hG rfl rfl rfl rfl ?_)
      | (show AOp _ _ ⟨_, .indexAddr _ _ _, _, _, _, _⟩ _ _ _; first | refine r_idx0 hG rfl rfl rfl rfl rfl rfl rfl ?_ | refine r_idxn hG rfl rfl rfl rfl rfl rfl rfl (by omega) ?_ | refine r_idxm hG rfl rfl rfl rfl rfl rfl rfl (by omega) ?_ | refine r_idx hG rfl rfl ?_)
      | refine r_q hG rfl rfl rfl ?_); try exact kk)
    | (show AL _ _ _ _ _ _ _ _; first | refine al_s rfl rfl rfl ?_ | (refine al_nil ?_; first | show AW _ _ _ _ _ _ | show ∃ x', _ < _ ∧ _)) | (show AW _ _ (.seq _ _) _ _ _; refine aw_seq' ?_; intro Q1) | (show AW _ _ (.region _ _ false) _ _ _; refine aw_regL' ?_; intro O1) | (show AW _ _ (.cond _ _ _) _ _ _; first | refine aw_if_t rfl ?_ | refine aw_if_f rfl ?_) | (show AW _ _ (.skip) _ _ _; refine aw_skip ?_; first | show AW _ _ _ _ _ _ | show ∃ x', _ < _ ∧ _) | (show AW _ _ (.goto _) _ _ _; refine aw_goto ?_; try dsimp only [thenA, inBlockA, jumpA, noGotoA]) | (show AW _ _ (.ret) _ _ _; refine aw_ret ?_; try dsimp only [thenA, inBlockA, jumpA, noGotoA])
    | (show DL _ _ _ _ _ _ _; refine dl_d rfl rfl (fun K kt kf => r_cmp hG rfl rfl rfl rfl rfl kt kf) (fun h => ?_) (fun h => ?_)) | (show DL _ _ _ _ _ _ _; refine dl_d rfl rfl (fun K kt kf => r_str hG rfl rfl rfl rfl kt kf) (fun h => ?_) (fun h => ?_)) | (show DL _ _ _ _ _ _ _; refine dl_ne rfl rfl (fun K kt kf => r_strn hG rfl rfl rfl rfl kt kf) (fun h => ?_) (fun h => ?_))
    | (show DL _ _ _ _ _ _ _; refine dl_s rfl rfl rfl ?_) | (show DL _ _ _ _ _ _ _; refine dl_nil ?_; first | show AW _ _ _ _ _ _ | show ∃ x', _ < _ ∧ _) | (show AW _ _ (.region _ _ true) _ _ _; refine aw_draw' mix (by kernel_rfl) ?_; intro O1) | fail)
  refine aw_scope' 0 rfl (X := RiX a) (fun x => [(0, cT a), (3, .int .i64 x.i)]) (fun x => ⟨[], [], off, none⟩) (fun x => a.length - x.i) ?_ ?_
  · rintro ⟨i, hi, hp⟩
    dsimp only
    obtain ⟨i, rfl⟩ : ∃ j, i = j + 1 := ⟨i - 1, by omega⟩
    by_cases hib : i + 1 < a.length
    · have e : (((i + 1 : Nat) : Int) - 1).toNat = i := by omega
      repeat' (first
    | ((first | (show AL _ _ _ _ _ _ _ _; refine al_cons rfl ?_) | (show DL _ _ _ _ _ _ _; refine' dl_cons rfl rfl (fun K kk => ?_) ?_; try (show Go.Ts.T; rotate_left))); (first
      | (show AOp _ _ ⟨_, .move _, _, _, _, _⟩ _ _ _; refine r_move hG rfl rfl ?_)
      | (show AOp _ _ ⟨_, .assign _, _, _, _, _⟩ _ _ _; refine r_asg hG rfl rfl ?_)
      | (show AOp _ _ ⟨_, .call ⟨.builtin .len, _, _⟩, _, _, _, _⟩ _ _ _; first | refine r_lenm hG rfl rfl rfl rfl ?_ | refine r_len hG rfl rfl rfl rfl rfl ?_)
      | (show AOp _ _ ⟨_, .binOp .add _ _ _ _, _, _, _, _⟩ _ _ _; first | refine r_ari64 hG rfl rfl rfl rfl rfl (by omega) ?_ | refine r_aru64 hG rfl rfl rfl rfl rfl (by omega) ?_ | refine r_aru8 hG rfl rfl rfl rfl rfl (by omega) ?_ | refine r_aru16 hG rfl rfl rfl rfl rfl (by omega) ?_)
      | (show AOp _ _ ⟨_, .binOp .sub _ _ _ _, _, _, _, _⟩ _ _ _; first | refine r_ari64 hG rfl rfl rfl rfl rfl (by omega) ?_ | refine r_aru64 hG rfl rfl rfl rfl rfl (by omega) ?_ | refine r_aru8 hG rfl rfl rfl rfl rfl (by omega) ?_ | refine r_aru16 hG rfl rfl rfl rfl rfl (by omega) ?_)
      | (show AOp _ _ ⟨_, .binOp _ _ _ _ _, _, _, _, _⟩ _ _ _; first | refine r_cmpT hG rfl rfl rfl rfl rfl (by omega) ?_ | refine r_cmpF hG rfl rfl rfl rfl rfl (by omega) ?_ | refine r_strT hG rfl rfl rfl rfl (by first | rfl | assumption) ?_ | refine r_strnF hG rfl rfl rfl rfl (by first | rfl | assumption) ?_ | refine r_strF hG rfl rfl rfl rfl (by assumption) ?_ | refine r_strnT hG rfl rfl rfl rfl (by assumption) ?_ | ((fail_if_success have := kk); refine r_cmp hG rfl rfl rfl rfl rfl (fun h => ?_) (fun h => ?_)) | ((fail_if_success have := kk); first | refine r_str hG rfl rfl rfl rfl (fun h => ?_) (fun h => ?_) | refine r_strn hG rfl rfl rfl rfl (fun h => ?_) (fun h => ?_)) | refine r_beq hG rfl rfl rfl rfl rfl ?_ | refine r_bin' hG rfl rfl rfl ?_)
      | (show AOp _ _ ⟨_, .load _ _, _, _, _, _⟩ _ _ _; first | refine r_ldro hG rfl rfl rfl ?_ | refine r_ld 0 hG rfl rfl rfl rfl ?_ | refine r_ld 1 hG rfl rfl rfl rfl ?_ | refine r_ld 2 hG rfl rfl rfl rfl ?_ | refine r_ld 3 hG rfl rfl rfl rfl ?_)
      | (show AOp _ _ ⟨_, .indexAddr _ _ _, _, _, _, _⟩ _ _ _; first | refine r_idx0 hG rfl rfl rfl rfl rfl rfl rfl ?_ | refine r_idxn hG rfl rfl rfl rfl rfl rfl rfl (by omega) ?_ | refine r_idxm hG rfl rfl rfl rfl rfl rfl rfl (by omega) ?_ | refine r_idx hG rfl rfl ?_)
      | refine r_q hG rfl rfl rfl ?_); try exact kk)
    | (show AL _ _ _ _ _ _ _ _; first | refine al_s rfl rfl rfl ?_ | (refine al_nil ?_; first | show AW _ _ _ _ _ _ | show ∃ x', _ < _ ∧ _)) | (show AW _ _ (.seq _ _) _ _ _; refine aw_seq' ?_; intro Q1) | (show AW _ _ (.region _ _ false) _ _ _; refine aw_regL' ?_; intro O1) | (show AW _ _ (.cond _ _ _) _ _ _; first | refine aw_if_t rfl ?_ | refine aw_if_f rfl ?_) | (show AW _ _ (.skip) _ _ _; refine aw_skip ?_; first | show AW _ _ _ _ _ _ | show ∃ x', _ < _ ∧ _) | (show AW _ _ (.goto _) _ _ _; refine aw_goto ?_; try dsimp only [thenA, inBlockA, jumpA, noGotoA]) | (show AW _ _ (.ret) _ _ _; refine aw_ret ?_; try dsimp only [thenA, inBlockA, jumpA, noGotoA])
    | (show DL _ _ _ _ _ _ _; refine dl_d rfl rfl (fun K kt kf => r_cmp hG rfl rfl rfl rfl rfl kt kf) (fun h => ?_) (fun h => ?_)) | (show DL _ _ _ _ _ _ _; refine dl_d rfl rfl (fun K kt kf => r_str hG rfl rfl rfl rfl kt kf) (fun h => ?_) (fun h => ?_)) | (show DL _ _ _ _ _ _ _; refine dl_ne rfl rfl (fun K kt kf => r_strn hG rfl rfl rfl rfl kt kf) (fun h => ?_) (fun h => ?_))
    | (show DL _ _ _ _ _ _ _; refine dl_s rfl rfl rfl ?_) | (show DL _ _ _ _ _ _ _; refine dl_nil ?_; first | show AW _ _ _ _ _ _ | show ∃ x', _ < _ ∧ _) | (show AW _ _ (.region _ _ true) _ _ _; refine aw_draw' mix (by kernel_rfl) ?_; intro O1) | fail)
      · rw [e] at h
        refine ret_pure (res_tmp rfl res_nil) (.eq ?_) rfl
        have : risesB a = false := Bool.eq_false_iff.2 fun hr => by
          have := (rises_adj a).1 hr i hib
          rw [UInt16.lt_iff_toNat_lt] at this; omega
        rw [this]; rfl
      · rw [e] at h
        refine ⟨rfl, ⟨i + 2, by omega, fun j h1 h2 => ?_⟩, by dsimp only; omega, ?_, .refl _⟩
        · by_cases hj : j + 1 < i + 1
          · exact hp j hj h2
          · obtain rfl : j = i := by omega
            rw [UInt16.lt_iff_toNat_lt]; omega
        · exact .cons rfl (.consW rfl (.int (by simp; omega)) (.nil _))
    · repeat' (first
    | ((first | (show AL _ _ _ _ _ _ _ _; refine al_cons rfl ?_) | (show DL _ _ _ _ _ _ _; refine' dl_cons rfl rfl (fun K kk => ?_) ?_; try (show Go.Ts.T; rotate_left))); (first
      | (show AOp _ _ ⟨_, .move _, _, _, _, _⟩ _ _ _; refine r_move hG rfl rfl ?_)
      | (show AOp _ _ ⟨_, .assign _, _, _, _, _⟩ _ _ _; refine r_asg hG rfl rfl ?_)
      | (show AOp _ _ ⟨_, .call ⟨.builtin .len, _, _⟩, _, _, _, _⟩ _ _ _; first | refine r_lenm hG rfl rfl rfl rfl ?_ | refine r_len hG rfl rfl rfl rfl rfl ?_)
      | (show AOp _ _ ⟨_, .binOp .add _ _ _ _, _, _, _, _⟩ _ _ _; first | refine r_ari64 hG rfl rfl rfl rfl rfl (by omega) ?_ | refine r_aru64 hG rfl rfl rfl rfl rfl (by omega) ?_ | refine r_aru8 hG rfl rfl rfl rfl rfl (by omega) ?_ | refine r_aru16 hG rfl rfl rfl rfl rfl (by omega) ?_)
      | (show AOp _ _ ⟨_, .binOp .sub _ _ _ _, _, _, _, _⟩ _ _ _; first | refine r_ari64 hG rfl rfl rfl rfl rfl (by omega) ?_ | refine r_aru64 hG rfl rfl rfl rfl rfl (by omega) ?_ | refine r_aru8 hG rfl rfl rfl rfl rfl (by omega) ?_ | refine r_aru16 hG rfl rfl rfl rfl rfl (by omega) ?_)
      | (show AOp _ _ ⟨_, .binOp _ _ _ _ _, _, _, _, _⟩ _ _ _; first | refine r_cmpT hG rfl rfl rfl rfl rfl (by omega) ?_ | refine r_cmpF hG rfl rfl rfl rfl rfl (by omega) ?_ | refine r_strT hG rfl rfl rfl rfl (by first | rfl | assumption) ?_ | refine r_strnF hG rfl rfl rfl rfl (by first | rfl | assumption) ?_ | refine r_strF hG rfl rfl rfl rfl (by assumption) ?_ | refine r_strnT hG rfl rfl rfl rfl (by assumption) ?_ | ((fail_if_success have := kk); refine r_cmp hG rfl rfl rfl rfl rfl (fun h => ?_) (fun h => ?_)) | ((fail_if_success have := kk); first | refine r_str hG rfl rfl rfl rfl (fun h => ?_) (fun h => ?_) | refine r_strn hG rfl rfl rfl rfl (fun h => ?_) (fun h => ?_)) | refine r_beq hG rfl rfl rfl rfl rfl ?_ | refine r_bin' hG rfl rfl rfl ?_)
      | (show AOp _ _ ⟨_, .load _ _, _, _, _, _⟩ _ _ _; first | refine r_ldro hG rfl rfl rfl ?_ | refine r_ld 0 hG rfl rfl rfl rfl ?_ | refine r_ld 1 hG rfl rfl rfl rfl ?_ | refine r_ld 2 hG rfl rfl rfl rfl ?_ | refine r_ld 3 hG rfl rfl rfl rfl ?_)
      | (show AOp _ _ ⟨_, .indexAddr _ _ _, _, _, _, _⟩ _ _ _; first | refine r_idx0 hG rfl rfl rfl rfl rfl rfl rfl ?_ | refine r_idxn hG rfl rfl rfl rfl rfl rfl rfl (by omega) ?_ | refine r_idxm hG rfl rfl rfl rfl rfl rfl rfl (by omega) ?_ | refine r_idx hG rfl rfl ?_)
      | refine r_q hG rfl rfl rfl ?_); try exact kk)
    | (show AL _ _ _ _ _ _ _ _; first | refine al_s rfl rfl rfl ?_ | (refine al_nil ?_; first | show AW _ _ _ _ _ _ | show ∃ x', _ < _ ∧ _)) | (show AW _ _ (.seq _ _) _ _ _; refine aw_seq' ?_; intro Q1) | (show AW _ _ (.region _ _ false) _ _ _; refine aw_regL' ?_; intro O1) | (show AW _ _ (.cond _ _ _) _ _ _; first | refine aw_if_t rfl ?_ | refine aw_if_f rfl ?_) | (show AW _ _ (.skip) _ _ _; refine aw_skip ?_; first | show AW _ _ _ _ _ _ | show ∃ x', _ < _ ∧ _) | (show AW _ _ (.goto _) _ _ _; refine aw_goto ?_; try dsimp only [thenA, inBlockA, jumpA, noGotoA]) | (show AW _ _ (.ret) _ _ _; refine aw_ret ?_; try dsimp only [thenA, inBlockA, jumpA, noGotoA])
    | (show DL _ _ _ _ _ _ _; refine dl_d rfl rfl (fun K kt kf => r_cmp hG rfl rfl rfl rfl rfl kt kf) (fun h => ?_) (fun h => ?_)) | (show DL _ _ _ _ _ _ _; refine dl_d rfl rfl (fun K kt kf => r_str hG rfl rfl rfl rfl kt kf) (fun h => ?_) (fun h => ?_)) | (show DL _ _ _ _ _ _ _; refine dl_ne rfl rfl (fun K kt kf => r_strn hG rfl rfl rfl rfl kt kf) (fun h => ?_) (fun h => ?_))
    | (show DL _ _ _ _ _ _ _; refine dl_s rfl rfl rfl ?_) | (show DL _ _ _ _ _ _ _; refine dl_nil ?_; first | show AW _ _ _ _ _ _ | show ∃ x', _ < _ ∧ _) | (show AW _ _ (.region _ _ true) _ _ _; refine aw_draw' mix (by kernel_rfl) ?_; intro O1) | fail)
      refine ret_pure (res_tmp rfl res_nil) (.eq ?_) rfl
      have : risesB a = true := (rises_adj a).2 fun j hj => hp j (by omega) hj
      rw [this]; rfl
  · intro key
    repeat' (first
    | ((first | (show AL _ _ _ _ _ _ _ _; refine al_cons rfl ?_) | (show DL _ _ _ _ _ _ _; refine' dl_cons rfl rfl (fun K kk => ?_) ?_; try (show Go.Ts.T; rotate_left))); (first
      | (show AOp _ _ ⟨_, .move _, _, _, _, _⟩ _ _ _; refine r_move hG rfl rfl ?_)
      | (show AOp _ _ ⟨_, .assign _, _, _, _, _⟩ _ _ _; refine r_asg hG rfl rfl ?_)
      | (show AOp _ _ ⟨_, .call ⟨.builtin .len, _, _⟩, _, _, _, _⟩ _ _ _; first | refine r_lenm hG rfl rfl rfl rfl ?_ | refine r_len hG rfl rfl rfl rfl rfl ?_)
      | (show AOp _ _ ⟨_, .binOp .add _ _ _ _, _, _, _, _⟩ _ _ _; first | refine r_ari64 hG rfl rfl rfl rfl rfl (by omega) ?_ | refine r_aru64 hG rfl rfl rfl rfl rfl (by omega) ?_ | refine r_aru8 hG rfl rfl rfl rfl rfl (by omega) ?_ | refine r_aru16 hG rfl rfl rfl rfl rfl (by omega) ?_)
      | (show AOp _ _ ⟨_, .binOp .sub _ _ _ _, _, _, _, _⟩ _ _ _; first | refine r_ari64 hG rfl rfl rfl rfl rfl (by omega) ?_ | refine r_aru64 hG rfl rfl rfl rfl rfl (by omega) ?_ | refine r_aru8 hG rfl rfl rfl rfl rfl (by omega) ?_ | refine r_aru16 hG rfl rfl rfl rfl rfl (by omega) ?_)
      | (show AOp _ _ ⟨_, .binOp _ _ _ _ _, _, _, _, _⟩ _ _ _; first | refine r_cmpT hG rfl rfl rfl rfl rfl (by omega) ?_ | refine r_cmpF hG rfl rfl rfl rfl rfl (by omega) ?_ | refine r_strT hG rfl rfl rfl rfl (by first | rfl | assumption) ?_ | refine r_strnF hG rfl rfl rfl rfl (by first | rfl | assumption) ?_ | refine r_strF hG rfl rfl rfl rfl (by assumption) ?_ | refine r_strnT hG rfl rfl rfl rfl (by assumption) ?_ | ((fail_if_success have := kk); refine r_cmp hG rfl rfl rfl rfl rfl (fun h => ?_) (fun h => ?_)) | ((fail_if_success have := kk); first | refine r_str hG rfl rfl rfl rfl (fun h => ?_) (fun h => ?_) | refine r_strn hG rfl rfl rfl rfl (fun h => ?_) (fun h => ?_)) | refine r_beq hG rfl rfl rfl rfl rfl ?_ | refine r_bin' hG rfl rfl rfl ?_)
      | (show AOp _ _ ⟨_, .load _ _, _, _, _, _⟩ _ _ _; first | refine r_ldro hG rfl rfl rfl ?_ | refine r_ld 0 hG rfl rfl rfl rfl ?_ | refine r_ld 1 hG rfl rfl rfl rfl ?_ | refine r_ld 2 hG rfl rfl rfl rfl ?_ | refine r_ld 3 hG rfl rfl rfl rfl ?_)
      | (show AOp _ _ ⟨_, .indexAddr _ _ _, _, _, _, _⟩ _ _ _; first | refine r_idx0 hG rfl rfl rfl rfl rfl rfl rfl ?_ | refine r_idxn hG rfl rfl rfl rfl rfl rfl rfl (by omega) ?_ | refine r_idxm hG rfl rfl rfl rfl rfl rfl rfl (by omega) ?_ | refine r_idx hG rfl rfl ?_)
      | refine r_q hG rfl rfl rfl ?_); try exact kk)
    | (show AL _ _ _ _ _ _ _ _; first | refine al_s rfl rfl rfl ?_ | (refine al_nil ?_; first | show AW _ _ _ _ _ _ | show ∃ x', _ < _ ∧ _)) | (show AW _ _ (.seq _ _) _ _ _; refine aw_seq' ?_; intro Q1) | (show AW _ _ (.region _ _ false) _ _ _; refine aw_regL' ?_; intro O1) | (show AW _ _ (.cond _ _ _) _ _ _; first | refine aw_if_t rfl ?_ | refine aw_if_f rfl ?_) | (show AW _ _ (.skip) _ _ _; refine aw_skip ?_; first | show AW _ _ _ _ _ _ | show ∃ x', _ < _ ∧ _) | (show AW _ _ (.goto _) _ _ _; refine aw_goto ?_; try dsimp only [thenA, inBlockA, jumpA, noGotoA]) | (show AW _ _ (.ret) _ _ _; refine aw_ret ?_; try dsimp only [thenA, inBlockA, jumpA, noGotoA])
    | (show DL _ _ _ _ _ _ _; refine dl_d rfl rfl (fun K kt kf => r_cmp hG rfl rfl rfl rfl rfl kt kf) (fun h => ?_) (fun h => ?_)) | (show DL _ _ _ _ _ _ _; refine dl_d rfl rfl (fun K kt kf => r_str hG rfl rfl rfl rfl kt kf) (fun h => ?_) (fun h => ?_)) | (show DL _ _ _ _ _ _ _; refine dl_ne rfl rfl (fun K kt kf => r_strn hG rfl rfl rfl rfl kt kf) (fun h => ?_) (fun h => ?_))
    | (show DL _ _ _ _ _ _ _; refine dl_s rfl rfl rfl ?_) | (show DL _ _ _ _ _ _ _; refine dl_nil ?_; first | show AW _ _ _ _ _ _ | show ∃ x', _ < _ ∧ _) | (show AW _ _ (.region _ _ true) _ _ _; refine aw_draw' mix (by kernel_rfl) ?_; intro O1) | fail)
    refine aw_label ?_
    show AW _ _ _ _ _ _
    refine aw_forget ?_ (key ⟨1, by omega, fun j h1 h2 => by omega⟩)
    exact .cons rfl (.consW rfl (.int rfl) (.nil _))
def mayC (a : List UInt16) : Bool := decide (a.length ≤ 16) && risesB a
theorem cats_May {x : T} {a : List UInt16} (hx : catsT x = some a) (hl : a.length ≤ 140737488351232) : Pure Try.prog 44 [x] (.bool (mayC a)) := by
  refine Pure.weak (us := [cT a]) ?_ (wk1 (catsT_wk hx))
  intro off
  refine acalls_mk (N := 10) (rs := [.tmp 2]) hG Try.func44 rfl rfl rfl rfl rfl ?_
  by_cases h : a.length ≤ 16
  · repeat' (first
    | ((show AL _ _ _ _ _ _ _ _; refine al_cons rfl ?_); (first
      | (show AOp _ _ ⟨_, .move _, _, _, _, _⟩ _ _ _; refine r_move hG rfl rfl ?_)
      | (show AOp _ _ ⟨_, .assign _, _, _, _, _⟩ _ _ _; refine r_asg hG rfl rfl ?_)
      | (show AOp _ _ ⟨_, .call ⟨.builtin .len, _, _⟩, _, _, _, _⟩ _ _ _; first | refine r_lenm hG rfl rfl rfl rfl ?_ | refine r_len hG rfl rfl rfl rfl rfl ?_)
      | (show AOp _ _ ⟨_, .binOp _ _ _ _ _, _, _, _, _⟩ _ _ _; first | refine r_cmpT hG rfl rfl rfl rfl rfl (by omega) ?_ | refine r_cmpF hG rfl rfl rfl rfl rfl (by omega) ?_ | refine r_strT hG rfl rfl rfl rfl (by first | rfl | assumption) ?_ | refine r_strnF hG rfl rfl rfl rfl (by first | rfl | assumption) ?_ | refine r_strF hG rfl rfl rfl rfl (by assumption) ?_ | refine r_strnT hG rfl rfl rfl rfl (by assumption) ?_ | (refine r_cmp hG rfl rfl rfl rfl rfl (fun h => ?_) (fun h => ?_)) | (first | refine r_str hG rfl rfl rfl rfl (fun h => ?_) (fun h => ?_) | refine r_strn hG rfl rfl rfl rfl (fun h => ?_) (fun h => ?_)) | refine r_beq hG rfl rfl rfl rfl rfl ?_ | refine r_bin' hG rfl rfl rfl ?_)
      | (show AOp _ _ ⟨_, .pick _ _ _, _, _, _, _⟩ _ _ _; refine r_pick hG rfl rfl rfl ?_)
      | (show AOp _ _ ⟨_, .call ⟨.value _, _, _⟩, _, _, _, _⟩ _ _ _; first | refine r_pure rfl rfl rfl rfl rfl (by apply cats_rises <;> (first | assumption | omega | exact bytesT_map _ _ | exact bytesT_s _ | exact catsT_map _ _ | exact catsT_c _ | rfl | (simp; omega))) ?_ | fail)
      | refine r_q hG rfl rfl rfl ?_))
    | (show AL _ _ _ _ _ _ _ _; first | refine al_s rfl rfl rfl ?_ | (refine al_nil ?_; first | show AW _ _ _ _ _ _ | show ∃ x', _ < _ ∧ _)) | (show AW _ _ (.seq _ _) _ _ _; refine aw_seq' ?_; intro Q1) | (show AW _ _ (.region _ _ false) _ _ _; refine aw_regL' ?_; intro O1) | (show AW _ _ (.ret) _ _ _; refine aw_ret ?_; try dsimp only [thenA, inBlockA, jumpA, noGotoA]) | fail)
    exact ret_pure (res_tmp rfl res_nil) (.eq (by simp [mayC, h, tup1])) rfl
  · repeat' (first
    | ((show AL _ _ _ _ _ _ _ _; refine al_cons rfl ?_); (first
      | (show AOp _ _ ⟨_, .move _, _, _, _, _⟩ _ _ _; refine r_move hG rfl rfl ?_)
      | (show AOp _ _ ⟨_, .assign _, _, _, _, _⟩ _ _ _; refine r_asg hG rfl rfl ?_)
      | (show AOp _ _ ⟨_, .call ⟨.builtin .len, _, _⟩, _, _, _, _⟩ _ _ _; first | refine r_lenm hG rfl rfl rfl rfl ?_ | refine r_len hG rfl rfl rfl rfl rfl ?_)
      | (show AOp _ _ ⟨_, .binOp _ _ _ _ _, _, _, _, _⟩ _ _ _; first | refine r_cmpT hG rfl rfl rfl rfl rfl (by omega) ?_ | refine r_cmpF hG rfl rfl rfl rfl rfl (by omega) ?_ | refine r_strT hG rfl rfl rfl rfl (by first | rfl | assumption) ?_ | refine r_strnF hG rfl rfl rfl rfl (by first | rfl | assumption) ?_ | refine r_strF hG rfl rfl rfl rfl (by assumption) ?_ | refine r_strnT hG rfl rfl rfl rfl (by assumption) ?_ | (refine r_cmp hG rfl rfl rfl rfl rfl (fun h => ?_) (fun h => ?_)) | (first | refine r_str hG rfl rfl rfl rfl (fun h => ?_) (fun h => ?_) | refine r_strn hG rfl rfl rfl rfl (fun h => ?_) (fun h => ?_)) | refine r_beq hG rfl rfl rfl rfl rfl ?_ | refine r_bin' hG rfl rfl rfl ?_)
      | (show AOp _ _ ⟨_, .pick _ _ _, _, _, _, _⟩ _ _ _; refine r_pick hG rfl rfl rfl ?_)
      | (show AOp _ _ ⟨_, .call ⟨.value _, _, _⟩, _, _, _, _⟩ _ _ _; first | refine r_pure rfl rfl rfl rfl rfl (by apply cats_rises <;> (first | assumption | omega | exact bytesT_map _ _ | exact bytesT_s _ | exact catsT_map _ _ | exact catsT_c _ | rfl | (simp; omega))) ?_ | fail)
      | refine r_q hG rfl rfl rfl ?_))
    | (show AL _ _ _ _ _ _ _ _; first | refine al_s rfl rfl rfl ?_ | (refine al_nil ?_; first | show AW _ _ _ _ _ _ | show ∃ x', _ < _ ∧ _)) | (show AW _ _ (.seq _ _) _ _ _; refine aw_seq' ?_; intro Q1) | (show AW _ _ (.region _ _ false) _ _ _; refine aw_regL' ?_; intro O1) | (show AW _ _ (.ret) _ _ _; refine aw_ret ?_; try dsimp only [thenA, inBlockA, jumpA, noGotoA]) | fail)
    refine ret_pure (res_tmp rfl res_nil) (.eq ?_) rfl
    rw [mayC, decide_eq_false h]; rfl

def putC (b : List UInt8) (a : List UInt16) : List UInt8 := b ++ putI a.length 1 ++ a.flatMap fun c => putI c.toNat 2
theorem flat2_length (l : List UInt16) : (l.flatMap fun c => putI c.toNat 2).length = 2 * l.length := by
  induction l with
  | nil => rfl
  | cons x l ih =>
    have : (putI x.toNat 2).length = 2 := by rw [putI, if_pos (by omega), be_length]; rfl
    rw [List.flatMap_cons, List.length_append, ih, this, List.length_cons]; omega
theorem flatMap_take {α β : Type} [Inhabited α] (l : List α) (f : α → List β) (i : Nat) (h : i < l.length) : (l.take (i + 1)).flatMap f = (l.take i).flatMap f ++ f (l.getD i default) := by
  rw [take_getD l i h, List.flatMap_append]; simp
structure CPX (a : List UInt16) where
  i : Nat
  k : Nat
  hi : i ≤ a.length
theorem cats_Put {x y : T} {b : List UInt8} {a : List UInt16} (hx : bytesT x = some b) (hy : catsT y = some a) (hl : b.length ≤ 4294000000) (hs : a.length ≤ 70000) :
    Owns Try.prog 23 [x, y] 1 ((putC b a).map bT) := by
  refine Owns.weak (us := [sT b, cT a]) ?_ (wk2 (bytesT_wk hx) (catsT_wk hy))
  intro off
  refine acalls_mk (N := 25) (rs := [.tmp 4]) hG Try.func23 rfl rfl rfl rfl rfl ?_
  have hpl := putI_le a.length 1
  repeat' (first
    | ((show AL _ _ _ _ _ _ _ _; refine al_cons rfl ?_); (first
      | (show AOp _ _ ⟨_, .move _, _, _, _, _⟩ _ _ _; refine r_move hG rfl rfl ?_)
      | (show AOp _ _ ⟨_, .assign _, _, _, _, _⟩ _ _ _; refine r_asg hG rfl rfl ?_)
      | (show AOp _ _ ⟨_, .call ⟨.builtin .len, _, _⟩, _, _, _, _⟩ _ _ _; first | refine r_lenm hG rfl rfl rfl rfl ?_ | refine r_len hG rfl rfl rfl rfl rfl ?_)
      | (show AOp _ _ ⟨_, .binOp .add _ _ _ _, _, _, _, _⟩ _ _ _; first | refine r_ari64 hG rfl rfl rfl rfl rfl (by omega) ?_ | refine r_aru64 hG rfl rfl rfl rfl rfl (by omega) ?_ | refine r_aru8 hG rfl rfl rfl rfl rfl (by omega) ?_ | refine r_aru16 hG rfl rfl rfl rfl rfl (by omega) ?_)
      | (show AOp _ _ ⟨_, .binOp _ _ _ _ _, _, _, _, _⟩ _ _ _; first | refine r_cmpT hG rfl rfl rfl rfl rfl (by omega) ?_ | refine r_cmpF hG rfl rfl rfl rfl rfl (by omega) ?_ | refine r_strT hG rfl rfl rfl rfl (by first | rfl | assumption) ?_ | refine r_strnF hG rfl rfl rfl rfl (by first | rfl | assumption) ?_ | refine r_strF hG rfl rfl rfl rfl (by assumption) ?_ | refine r_strnT hG rfl rfl rfl rfl (by assumption) ?_ | (refine r_cmp hG rfl rfl rfl rfl rfl (fun h => ?_) (fun h => ?_)) | (first | refine r_str hG rfl rfl rfl rfl (fun h => ?_) (fun h => ?_) | refine r_strn hG rfl rfl rfl rfl (fun h => ?_) (fun h => ?_)) | refine r_beq hG rfl rfl rfl rfl rfl ?_ | refine r_bin' hG rfl rfl rfl ?_)
      | (show AOp _ _ ⟨_, .load _ _, _, _, _, _⟩ _ _ _; first | refine r_ldro hG rfl rfl rfl ?_ | refine r_ld 0 hG rfl rfl rfl rfl ?_ | refine r_ld 1 hG rfl rfl rfl rfl ?_ | refine r_ld 2 hG rfl rfl rfl rfl ?_ | refine r_ld 3 hG rfl rfl rfl rfl ?_)
      | (show AOp _ _ ⟨_, .indexAddr _ _ _, _, _, _, _⟩ _ _ _; first | refine r_idx0 hG rfl rfl rfl rfl rfl rfl rfl ?_ | refine r_idxn hG rfl rfl rfl rfl rfl rfl rfl (by omega) ?_ | refine r_idxm hG rfl rfl rfl rfl rfl rfl rfl (by omega) ?_ | refine r_idx hG rfl rfl ?_)
      | (show AOp _ _ ⟨_, .convert _ _ _, _, _, _, _⟩ _ _ _; first | refine r_tostr hG rfl rfl rfl rfl rfl rfl rfl rfl (by first | exact bytesT_map _ _ | exact bytesT_s _ | rfl) ?_ | refine r_cv8 hG rfl rfl rfl rfl rfl rfl ?_ | refine r_cv16 hG rfl rfl rfl rfl rfl rfl ?_ | refine r_cv_i64 hG rfl rfl rfl rfl rfl (by omega) ?_ | refine r_cv_u64 hG rfl rfl rfl rfl rfl (by omega) ?_ | refine r_cv_u8 hG rfl rfl rfl rfl rfl (by omega) ?_ | refine r_cv_u16 hG rfl rfl rfl rfl rfl (by omega) ?_ | refine r_cvw hG rfl rfl rfl rfl rfl ?_)
      | (show AOp _ _ ⟨_, .call ⟨.value _, _, _⟩, _, _, _, _⟩ _ _ _; first | (refine r_owns rfl rfl rfl rfl rfl (by apply num_Put <;> (first | assumption | omega | exact bytesT_map _ _ | exact bytesT_s _ | exact catsT_map _ _ | exact catsT_c _ | rfl | (simp; omega))) (fun k => ?_)) | (have := kk; clear this; refine r_pure rfl rfl rfl rfl rfl (Owns.pure (by apply num_Put <;> (first | assumption | omega | exact bytesT_map _ _ | exact bytesT_s _ | exact catsT_map _ _ | exact catsT_c _ | rfl | (simp; omega)))) ?_) | fail)
      | refine r_q hG rfl rfl rfl ?_))
    | (show AL _ _ _ _ _ _ _ _; first | refine al_s rfl rfl rfl ?_ | (refine al_nil ?_; first | show AW _ _ _ _ _ _ | show ∃ x', _ < _ ∧ _)) | (show AW _ _ (.seq _ _) _ _ _; refine aw_seq' ?_; intro Q1) | (show AW _ _ (.region _ _ false) _ _ _; refine aw_regL' ?_; intro O1) | (show AW _ _ (.cond _ _ _) _ _ _; first | refine aw_if_t rfl ?_ | refine aw_if_f rfl ?_) | (show AW _ _ (.skip) _ _ _; refine aw_skip ?_; first | show AW _ _ _ _ _ _ | show ∃ x', _ < _ ∧ _) | (show AW _ _ (.block _ _) _ _ _; refine aw_block' ?_; intro Q1) | (show AW _ _ (.exit _) _ _ _; refine aw_exit ?_; first | show AW _ _ _ _ _ _ | show ∃ x', _ < _ ∧ _) | (show AW _ _ (.ret) _ _ _; refine aw_ret ?_; try dsimp only [thenA, inBlockA, jumpA, noGotoA]) | fail)
  refine aw_loop (X := CPX a) (fun x => [(13, cT a), (14, .int .i64 a.length), (15, .int .i64 x.i), (5, .sl 1 (.tok x.k) ((b ++ putI a.length 1 ++ (a.take x.i).flatMap fun c => putI c.toNat 2).map bT))]) (fun x => ⟨[], [x.k], off, none⟩) (fun x => a.length - x.i) ⟨0, _, Nat.zero_le _⟩ ?_ (.refl _) ?_
  · exact .cons rfl (.cons rfl (.consW rfl (.int rfl) (.consW rfl (.eq (by simp)) (.nil _))))
  rintro ⟨i, k, hi⟩
  dsimp only
  have hf := flat2_length (a.take i)
  have htl : (a.take i).length = i := by rw [List.length_take]; omega
  by_cases hib : i < a.length
  · have hft := flatMap_take a (fun c => putI c.toNat 2) i hib
    have hlen : (b ++ putI a.length 1 ++ (a.take i).flatMap fun c => putI c.toNat 2).length ≤ 4294967000 := by rw [List.length_append, List.length_append]; omega
    repeat' (first
    | ((show AL _ _ _ _ _ _ _ _; refine al_cons rfl ?_); (first
      | (show AOp _ _ ⟨_, .move _, _, _, _, _⟩ _ _ _; refine r_move hG rfl rfl ?_)
      | (show AOp _ _ ⟨_, .assign _, _, _, _, _⟩ _ _ _; refine r_asg hG rfl rfl ?_)
      | (show AOp _ _ ⟨_, .call ⟨.builtin .len, _, _⟩, _, _, _, _⟩ _ _ _; first | refine r_lenm hG rfl rfl rfl rfl ?_ | refine r_len hG rfl rfl rfl rfl rfl ?_)
      | (show AOp _ _ ⟨_, .binOp .add _ _ _ _, _, _, _, _⟩ _ _ _; first | refine r_ari64 hG rfl rfl rfl rfl rfl (by omega) ?_ | refine r_aru64 hG rfl rfl rfl rfl rfl (by omega) ?_ | refine r_aru8 hG rfl rfl rfl rfl rfl (by omega) ?_ | refine r_aru16 hG rfl rfl rfl rfl rfl (by omega) ?_)
      | (show AOp _ _ ⟨_, .binOp _ _ _ _ _, _, _, _, _⟩ _ _ _; first | refine r_cmpT hG rfl rfl rfl rfl rfl (by omega) ?_ | refine r_cmpF hG rfl rfl rfl rfl rfl (by omega) ?_ | refine r_strT hG rfl rfl rfl rfl (by first | rfl | assumption) ?_ | refine r_strnF hG rfl rfl rfl rfl (by first | rfl | assumption) ?_ | refine r_strF hG rfl rfl rfl rfl (by assumption) ?_ | refine r_strnT hG rfl rfl rfl rfl (by assumption) ?_ | (refine r_cmp hG rfl rfl rfl rfl rfl (fun h => ?_) (fun h => ?_)) | (first | refine r_str hG rfl rfl rfl rfl (fun h => ?_) (fun h => ?_) | refine r_strn hG rfl rfl rfl rfl (fun h => ?_) (fun h => ?_)) | refine r_beq hG rfl rfl rfl rfl rfl ?_ | refine r_bin' hG rfl rfl rfl ?_)
      | (show AOp _ _ ⟨_, .load _ _, _, _, _, _⟩ _ _ _; first | refine r_ldro hG rfl rfl rfl ?_ | refine r_ld 0 hG rfl rfl rfl rfl ?_ | refine r_ld 1 hG rfl rfl rfl rfl ?_ | refine r_ld 2 hG rfl rfl rfl rfl ?_ | refine r_ld 3 hG rfl rfl rfl rfl ?_)
      | (show AOp _ _ ⟨_, .indexAddr _ _ _, _, _, _, _⟩ _ _ _; first | refine r_idx0 hG rfl rfl rfl rfl rfl rfl rfl ?_ | refine r_idxn hG rfl rfl rfl rfl rfl rfl rfl (by omega) ?_ | refine r_idxm hG rfl rfl rfl rfl rfl rfl rfl (by omega) ?_ | refine r_idx hG rfl rfl ?_)
      | (show AOp _ _ ⟨_, .convert _ _ _, _, _, _, _⟩ _ _ _; first | refine r_tostr hG rfl rfl rfl rfl rfl rfl rfl rfl (by first | exact bytesT_map _ _ | exact bytesT_s _ | rfl) ?_ | refine r_cv8 hG rfl rfl rfl rfl rfl rfl ?_ | refine r_cv16 hG rfl rfl rfl rfl rfl rfl ?_ | refine r_cv_i64 hG rfl rfl rfl rfl rfl (by omega) ?_ | refine r_cv_u64 hG rfl rfl rfl rfl rfl (by omega) ?_ | refine r_cv_u8 hG rfl rfl rfl rfl rfl (by omega) ?_ | refine r_cv_u16 hG rfl rfl rfl rfl rfl (by omega) ?_ | refine r_cvw hG rfl rfl rfl rfl rfl ?_)
      | (show AOp _ _ ⟨_, .call ⟨.value _, _, _⟩, _, _, _, _⟩ _ _ _; first | (refine r_owns rfl rfl rfl rfl rfl (by apply num_Put <;> (first | assumption | omega | exact bytesT_map _ _ | exact bytesT_s _ | exact catsT_map _ _ | exact catsT_c _ | rfl | (simp; omega))) (fun k => ?_)) | (have := kk; clear this; refine r_pure rfl rfl rfl rfl rfl (Owns.pure (by apply num_Put <;> (first | assumption | omega | exact bytesT_map _ _ | exact bytesT_s _ | exact catsT_map _ _ | exact catsT_c _ | rfl | (simp; omega)))) ?_) | fail)
      | refine r_q hG rfl rfl rfl ?_))
    | (show AL _ _ _ _ _ _ _ _; first | refine al_s rfl rfl rfl ?_ | (refine al_nil ?_; first | show AW _ _ _ _ _ _ | show ∃ x', _ < _ ∧ _)) | (show AW _ _ (.seq _ _) _ _ _; refine aw_seq' ?_; intro Q1) | (show AW _ _ (.region _ _ false) _ _ _; refine aw_regL' ?_; intro O1) | (show AW _ _ (.cond _ _ _) _ _ _; first | refine aw_if_t rfl ?_ | refine aw_if_f rfl ?_) | (show AW _ _ (.skip) _ _ _; refine aw_skip ?_; first | show AW _ _ _ _ _ _ | show ∃ x', _ < _ ∧ _) | (show AW _ _ (.block _ _) _ _ _; refine aw_block' ?_; intro Q1) | (show AW _ _ (.exit _) _ _ _; refine aw_exit ?_; first | show AW _ _ _ _ _ _ | show ∃ x', _ < _ ∧ _) | (show AW _ _ (.ret) _ _ _; refine aw_ret ?_; try dsimp only [thenA, inBlockA, jumpA, noGotoA]) | fail)
    refine ⟨⟨i + 1, _, by omega⟩, by dsimp only; omega, ?_, drop_tok⟩
    exact .cons rfl (.cons rfl (.consW rfl (.int (by simp)) (.consW rfl (.eq (by rw [hft]; simp)) (.nil _))))
  · obtain rfl : i = a.length := by omega
    repeat' (first
    | ((show AL _ _ _ _ _ _ _ _; refine al_cons rfl ?_); (first
      | (show AOp _ _ ⟨_, .move _, _, _, _, _⟩ _ _ _; refine r_move hG rfl rfl ?_)
      | (show AOp _ _ ⟨_, .assign _, _, _, _, _⟩ _ _ _; refine r_asg hG rfl rfl ?_)
      | (show AOp _ _ ⟨_, .call ⟨.builtin .len, _, _⟩, _, _, _, _⟩ _ _ _; first | refine r_lenm hG rfl rfl rfl rfl ?_ | refine r_len hG rfl rfl rfl rfl rfl ?_)
      | (show AOp _ _ ⟨_, .binOp .add _ _ _ _, _, _, _, _⟩ _ _ _; first | refine r_ari64 hG rfl rfl rfl rfl rfl (by omega) ?_ | refine r_aru64 hG rfl rfl rfl rfl rfl (by omega) ?_ | refine r_aru8 hG rfl rfl rfl rfl rfl (by omega) ?_ | refine r_aru16 hG rfl rfl rfl rfl rfl (by omega) ?_)
      | (show AOp _ _ ⟨_, .binOp _ _ _ _ _, _, _, _, _⟩ _ _ _; first | refine r_cmpT hG rfl rfl rfl rfl rfl (by omega) ?_ | refine r_cmpF hG rfl rfl rfl rfl rfl (by omega) ?_ | refine r_strT hG rfl rfl rfl rfl (by first | rfl | assumption) ?_ | refine r_strnF hG rfl rfl rfl rfl (by first | rfl | assumption) ?_ | refine r_strF hG rfl rfl rfl rfl (by assumption) ?_ | refine r_strnT hG rfl rfl rfl rfl (by assumption) ?_ | (refine r_cmp hG rfl rfl rfl rfl rfl (fun h => ?_) (fun h => ?_)) | (first | refine r_str hG rfl rfl rfl rfl (fun h => ?_) (fun h => ?_) | refine r_strn hG rfl rfl rfl rfl (fun h => ?_) (fun h => ?_)) | refine r_beq hG rfl rfl rfl rfl rfl ?_ | refine r_bin' hG rfl rfl rfl ?_)
      | (show AOp _ _ ⟨_, .load _ _, _, _, _, _⟩ _ _ _; first | refine r_ldro hG rfl rfl rfl ?_ | refine r_ld 0 hG rfl rfl rfl rfl ?_ | refine r_ld 1 hG rfl rfl rfl rfl ?_ | refine r_ld 2 hG rfl rfl rfl rfl ?_ | refine r_ld 3 hG rfl rfl rfl rfl ?_)
      | (show AOp _ _ ⟨_, .indexAddr _ _ _, _, _, _, _⟩ _ _ _; first | refine r_idx0 hG rfl rfl rfl rfl rfl rfl rfl ?_ | refine r_idxn hG rfl rfl rfl rfl rfl rfl rfl (by omega) ?_ | refine r_idxm hG rfl rfl rfl rfl rfl rfl rfl (by omega) ?_ | refine r_idx hG rfl rfl ?_)
      | (show AOp _ _ ⟨_, .convert _ _ _, _, _, _, _⟩ _ _ _; first | refine r_tostr hG rfl rfl rfl rfl rfl rfl rfl rfl (by first | exact bytesT_map _ _ | exact bytesT_s _ | rfl) ?_ | refine r_cv8 hG rfl rfl rfl rfl rfl rfl ?_ | refine r_cv16 hG rfl rfl rfl rfl rfl rfl ?_ | refine r_cv_i64 hG rfl rfl rfl rfl rfl (by omega) ?_ | refine r_cv_u64 hG rfl rfl rfl rfl rfl (by omega) ?_ | refine r_cv_u8 hG rfl rfl rfl rfl rfl (by omega) ?_ | refine r_cv_u16 hG rfl rfl rfl rfl rfl (by omega) ?_ | refine r_cvw hG rfl rfl rfl rfl rfl ?_)
      | refine r_q hG rfl rfl rfl ?_))
    | (show AL _ _ _ _ _ _ _ _; first | refine al_s rfl rfl rfl ?_ | (refine al_nil ?_; first | show AW _ _ _ _ _ _ | show ∃ x', _ < _ ∧ _)) | (show AW _ _ (.seq _ _) _ _ _; refine aw_seq' ?_; intro Q1) | (show AW _ _ (.region _ _ false) _ _ _; refine aw_regL' ?_; intro O1) | (show AW _ _ (.cond _ _ _) _ _ _; first | refine aw_if_t rfl ?_ | refine aw_if_f rfl ?_) | (show AW _ _ (.skip) _ _ _; refine aw_skip ?_; first | show AW _ _ _ _ _ _ | show ∃ x', _ < _ ∧ _) | (show AW _ _ (.block _ _) _ _ _; refine aw_block' ?_; intro Q1) | (show AW _ _ (.exit _) _ _ _; refine aw_exit ?_; first | show AW _ _ _ _ _ _ | show ∃ x', _ < _ ∧ _) | (show AW _ _ (.ret) _ _ _; refine aw_ret ?_; try dsimp only [thenA, inBlockA, jumpA, noGotoA]) | fail)
    exact ret_owns 0 (res_tmp rfl res_nil) rfl (by rw [putC, List.take_length]) rfl

end Go.Proofs.Ytholeicgmkjadaa
