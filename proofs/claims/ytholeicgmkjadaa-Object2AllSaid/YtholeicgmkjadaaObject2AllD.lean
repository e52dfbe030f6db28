/- Part of the proof of the law Object2All: the texts O1, RA, RP, LP, RC, S6, S7. No conditions. -/
import Derived.Test.YtholeicgmkjadaaObject2AllC
set_option linter.unusedSimpArgs false
set_option linter.unusedVariables false
namespace Go.Proofs.Ytholeicgmkjadaa
open Go.Ts
set_option linter.unusedSimpArgs false
set_option linter.unusedVariables false
attribute [local irreducible] Go.Ts.AW Go.Ts.AOps Go.Ts.AL Go.Ts.AOp Go.Ts.ACalls Go.Ts.DL Go.Ts.DQ Go.Ts.EL
/-- A number that a name is of. -/
def iT (x : Nat) : T := .int .i64 x
instance : Enc iT 1 := ⟨fun x c h => by simp [iT, T.cells] at h; subst h; rfl, fun x => rfl⟩
def wT (x : Nat) : T := .int .u64 x
instance : Enc wT 1 := ⟨fun x c h => by simp [wT, T.cells] at h; subst h; rfl, fun x => rfl⟩
def nums : Nat → Nat → List Nat → Option (List Nat)
  | 0, id, out => if id = 1 then some out else none
  | f + 1, id, out => if id = 1 then some out else if id > 1 ∧ id % 64 > 0 then nums f (id / 64) (out ++ [id % 64]) else none
def nameB (id : Nat) : Bool := (nums 6 id []).isSome
def numsT (id : Nat) : T := match nums 6 id [] with
  | some l => .sl 1 .no (l.map iT)
  | none => .nilsl
structure NuX (id : Nat) where
  f : Nat
  hf : f ≤ 6
  id' : Nat
  h64 : id' < 18446744073709551616
  out : List Nat
  ho : out.length = 6 - f
  hr : nums f id' out = nums 6 id []
  k : Nat
theorem and63 (v : Nat) (h : v < 18446744073709551616) : IntKind.u64.wrap ((BitVec.ofInt IntKind.u64.bits (v : Int) &&& BitVec.ofInt IntKind.u64.bits 63).toNat) = ((v % 64 : Nat) : Int) := by
  have e1 : BitVec.ofInt IntKind.u64.bits (v : Int) = BitVec.ofNat 64 v := by
    show BitVec.ofInt 64 _ = _
    rw [BitVec.ofInt_natCast]
  have e2 : BitVec.ofInt IntKind.u64.bits 63 = BitVec.ofNat 64 63 := rfl
  rw [e1, e2]
  have e3 : (BitVec.ofNat 64 v &&& BitVec.ofNat 64 63).toNat = v % 64 := by
    rw [BitVec.toNat_and, BitVec.toNat_ofNat, BitVec.toNat_ofNat, Nat.mod_eq_of_lt (by omega : v < 2 ^ 64), Nat.mod_eq_of_lt (by decide)]
    exact Nat.and_two_pow_sub_one_eq_mod v 6
  refine (congrArg (fun n : Nat => IntKind.u64.wrap (n : Int)) e3).trans ?_
  exact u64_in (by omega) (by omega)
section
variable {P : Program} {G : Nat → Option TI} {σ : St} {N : Nat} {a : Env}
theorem r_and63 {t yt : TypeId} {x : Operand} {v : Nat} {ti : TI} {d : Tmp} {ty : TypeId} {pos : String} {af : Array Edge} {gd : Option (Nat × Bool)} {K : Env → St → Prop} (hG : Fits P G) (ht : G t = some ti) (hx : evalO a x = some (.int .u64 (v : Int))) (h : v < 18446744073709551616) (hd : fitsD N (some d) = true)
    (kk : K (put a (some d) (.int .u64 ((v % 64 : Nat) : Int))) σ) : AOp P N ⟨some d, .binOp .and t x (.const (.int .u64 63)) yt, ty, pos, af, gd⟩ a σ K := by
  refine op_q hG (t := .int .u64 ((v % 64 : Nat) : Int)) ?_ rfl hd kk
  rw [← and63 v h]
  simp only [evalOp, hx, ht]; rfl
end
theorem shr6 (v : Nat) : (v : Int) / 2 ^ (min (Int.toNat 6) IntKind.u64.bits) = ((v / 64 : Nat) : Int) := by
  rw [show (min (Int.toNat 6) IntKind.u64.bits) = 6 from rfl]; omega
theorem name_numbers {id : Nat} (h : id < 18446744073709551616) : Ts.Pure Try.prog 80 [.int .u64 id] (.tup [numsT id, .bool (nameB id)]) := by
  intro off
  refine acalls_mk (N := 29) (rs := [.tmp 2, .tmp 3]) hG Try.func80 rfl rfl rfl rfl rfl ?_
  repeat' (first
    | ((show AL _ _ _ _ _ _ _ _; refine al_cons rfl ?_); (first
      | (show AOp _ _ ⟨_, .move _, _, _, _, _⟩ _ _ _; refine r_move hG rfl rfl ?_)
      | (show AOp _ _ ⟨_, .assign _, _, _, _, _⟩ _ _ _; refine r_asg hG rfl rfl ?_)
      | (show AOp _ _ ⟨_, .call ⟨.builtin .len, _, _⟩, _, _, _, _⟩ _ _ _; first | refine r_lenm hG rfl rfl rfl rfl ?_ | refine r_len hG rfl rfl rfl rfl rfl ?_)
      | (show AOp _ _ ⟨_, .binOp .shr _ _ _ _, _, _, _, _⟩ _ _ _; refine r_shr hG rfl rfl rfl rfl (by omega) ?_)
      | (show AOp _ _ ⟨_, .binOp .and _ _ _ _, _, _, _, _⟩ _ _ _; refine r_and63 hG rfl rfl (by omega) rfl ?_)
      | (show AOp _ _ ⟨_, .binOp _ _ _ _ _, _, _, _, _⟩ _ _ _; first | refine r_cmpT hG rfl rfl rfl rfl rfl (by omega) ?_ | refine r_cmpF hG rfl rfl rfl rfl rfl (by omega) ?_ | refine r_strT hG rfl rfl rfl rfl (by first | rfl | assumption) ?_ | refine r_strnF hG rfl rfl rfl rfl (by first | rfl | assumption) ?_ | refine r_strF hG rfl rfl rfl rfl (by assumption) ?_ | refine r_strnT hG rfl rfl rfl rfl (by assumption) ?_ | (refine r_cmp hG rfl rfl rfl rfl rfl (fun h => ?_) (fun h => ?_)) | (first | refine r_str hG rfl rfl rfl rfl (fun h => ?_) (fun h => ?_) | refine r_strn hG rfl rfl rfl rfl (fun h => ?_) (fun h => ?_)) | refine r_beq hG rfl rfl rfl rfl rfl ?_ | refine r_bin' hG rfl rfl rfl ?_)
      | (show AOp _ _ ⟨_, .convert _ _ _, _, _, _, _⟩ _ _ _; first | refine r_tostr hG rfl rfl rfl rfl rfl rfl rfl rfl (by first | exact bytesT_map _ _ | exact bytesT_s _ | rfl) ?_ | refine r_cv8 hG rfl rfl rfl rfl rfl rfl ?_ | refine r_cv16 hG rfl rfl rfl rfl rfl rfl ?_ | refine r_cv_i64 hG rfl rfl rfl rfl rfl (by omega) ?_ | refine r_cv_u64 hG rfl rfl rfl rfl rfl (by omega) ?_ | refine r_cv_u8 hG rfl rfl rfl rfl rfl (by omega) ?_ | refine r_cv_u16 hG rfl rfl rfl rfl rfl (by omega) ?_ | refine r_cvw hG rfl rfl rfl rfl rfl ?_)
      | (show AOp _ _ ⟨_, .pick _ _ _, _, _, _, _⟩ _ _ _; refine r_pick hG rfl rfl rfl ?_)
      | (show AOp _ _ ⟨_, .buildSlice _ _ _, _, _, _, _⟩ _ _ _; first | refine r_mk (sz := 1) hG rfl rfl rfl rfl rfl rfl rfl ?_ | refine r_mk (sz := 2) hG rfl rfl rfl rfl rfl rfl rfl ?_)
      | (show AOp _ _ ⟨_, .call ⟨.builtin .append, _, _⟩, _, _, _, _⟩ _ _ _; first | refine r_app0m (sz := 1) (xs := []) hG rfl rfl rfl rfl rfl rfl rfl ⟨_, rfl⟩ rfl rfl rfl rfl rfl rfl rfl (by first | omega | (simp; omega)) (fun k => ?_) | refine r_appm 0 hG rfl rfl rfl rfl rfl rfl rfl ⟨_, rfl⟩ rfl rfl rfl rfl rfl (by first | omega | (simp only [List.length_append, List.length_cons, List.length_nil]; omega)) (fun k => ?_) | fail)
      | refine r_q hG rfl rfl rfl ?_))
    | (show AL _ _ _ _ _ _ _ _; first | refine al_s rfl rfl rfl ?_ | (refine al_nil ?_; first | show AW _ _ _ _ _ _ | show ∃ x', _ < _ ∧ _)) | (show AW _ _ (.seq _ _) _ _ _; refine aw_seq' ?_; intro Q1) | (show AW _ _ (.region _ _ false) _ _ _; refine aw_regL' ?_; intro O1) | (show AW _ _ (.cond _ _ _) _ _ _; first | refine aw_if_t rfl ?_ | refine aw_if_f rfl ?_) | (show AW _ _ (.skip) _ _ _; refine aw_skip ?_; first | show AW _ _ _ _ _ _ | show ∃ x', _ < _ ∧ _) | (show AW _ _ (.goto _) _ _ _; refine aw_goto ?_; try dsimp only [thenA, inBlockA, jumpA, noGotoA]) | (show AW _ _ (.ret) _ _ _; refine aw_ret ?_; try dsimp only [thenA, inBlockA, jumpA, noGotoA]) | fail)
  refine aw_scope' 0 rfl (X := NuX id) (fun x => [(0, .int .u64 x.id'), (4, .sl 1 (.tok x.k) (x.out.map iT))]) (fun x => ⟨[], [x.k], off, none⟩) (fun x => x.f) ?_ ?_
  · rintro ⟨f, hf, id', h64, out, ho, hr, k⟩
    dsimp only
    have hr' : numsT id = match nums f id' out with
      | some l => .sl 1 .no (l.map iT)
      | none => .nilsl := by rw [hr]; rfl
    have hn' : nameB id = (nums f id' out).isSome := by rw [hr]; rfl
    by_cases h1 : id' = 1
    · have hz : nums f id' out = some out := by cases f <;> simp [nums, h1]
      rw [hz] at hr' hn'
      repeat' (first
    | ((show AL _ _ _ _ _ _ _ _; refine al_cons rfl ?_); (first
      | (show AOp _ _ ⟨_, .move _, _, _, _, _⟩ _ _ _; refine r_move hG rfl rfl ?_)
      | (show AOp _ _ ⟨_, .assign _, _, _, _, _⟩ _ _ _; refine r_asg hG rfl rfl ?_)
      | (show AOp _ _ ⟨_, .call ⟨.builtin .len, _, _⟩, _, _, _, _⟩ _ _ _; first | refine r_lenm hG rfl rfl rfl rfl ?_ | refine r_len hG rfl rfl rfl rfl rfl ?_)
      | (show AOp _ _ ⟨_, .binOp .shr _ _ _ _, _, _, _, _⟩ _ _ _; refine r_shr hG rfl rfl rfl rfl (by omega) ?_)
      | (show AOp _ _ ⟨_, .binOp .and _ _ _ _, _, _, _, _⟩ _ _ _; refine r_and63 hG rfl rfl (by omega) rfl ?_)
      | (show AOp _ _ ⟨_, .binOp _ _ _ _ _, _, _, _, _⟩ _ _ _; first | refine r_cmpT hG rfl rfl rfl rfl rfl (by omega) ?_ | refine r_cmpF hG rfl rfl rfl rfl rfl (by omega) ?_ | refine r_strT hG rfl rfl rfl rfl (by first | rfl | assumption) ?_ | refine r_strnF hG rfl rfl rfl rfl (by first | rfl | assumption) ?_ | refine r_strF hG rfl rfl rfl rfl (by assumption) ?_ | refine r_strnT hG rfl rfl rfl rfl (by assumption) ?_ | (refine r_cmp hG rfl rfl rfl rfl rfl (fun h => ?_) (fun h => ?_)) | (first | refine r_str hG rfl rfl rfl rfl (fun h => ?_) (fun h => ?_) | refine r_strn hG rfl rfl rfl rfl (fun h => ?_) (fun h => ?_)) | refine r_beq hG rfl rfl rfl rfl rfl ?_ | refine r_bin' hG rfl rfl rfl ?_)
      | (show AOp _ _ ⟨_, .convert _ _ _, _, _, _, _⟩ _ _ _; first | refine r_tostr hG rfl rfl rfl rfl rfl rfl rfl rfl (by first | exact bytesT_map _ _ | exact bytesT_s _ | rfl) ?_ | refine r_cv8 hG rfl rfl rfl rfl rfl rfl ?_ | refine r_cv16 hG rfl rfl rfl rfl rfl rfl ?_ | refine r_cv_i64 hG rfl rfl rfl rfl rfl (by omega) ?_ | refine r_cv_u64 hG rfl rfl rfl rfl rfl (by omega) ?_ | refine r_cv_u8 hG rfl rfl rfl rfl rfl (by omega) ?_ | refine r_cv_u16 hG rfl rfl rfl rfl rfl (by omega) ?_ | refine r_cvw hG rfl rfl rfl rfl rfl ?_)
      | (show AOp _ _ ⟨_, .pick _ _ _, _, _, _, _⟩ _ _ _; refine r_pick hG rfl rfl rfl ?_)
      | (show AOp _ _ ⟨_, .buildSlice _ _ _, _, _, _, _⟩ _ _ _; first | refine r_mk (sz := 1) hG rfl rfl rfl rfl rfl rfl rfl ?_ | refine r_mk (sz := 2) hG rfl rfl rfl rfl rfl rfl rfl ?_)
      | (show AOp _ _ ⟨_, .call ⟨.builtin .append, _, _⟩, _, _, _, _⟩ _ _ _; first | refine r_app0m (sz := 1) (xs := []) hG rfl rfl rfl rfl rfl rfl rfl ⟨_, rfl⟩ rfl rfl rfl rfl rfl rfl rfl (by first | omega | (simp; omega)) (fun k => ?_) | refine r_appm 0 hG rfl rfl rfl rfl rfl rfl rfl ⟨_, rfl⟩ rfl rfl rfl rfl rfl (by first | omega | (simp only [List.length_append, List.length_cons, List.length_nil]; omega)) (fun k => ?_) | fail)
      | refine r_q hG rfl rfl rfl ?_))
    | (show AL _ _ _ _ _ _ _ _; first | refine al_s rfl rfl rfl ?_ | (refine al_nil ?_; first | show AW _ _ _ _ _ _ | show ∃ x', _ < _ ∧ _)) | (show AW _ _ (.seq _ _) _ _ _; refine aw_seq' ?_; intro Q1) | (show AW _ _ (.region _ _ false) _ _ _; refine aw_regL' ?_; intro O1) | (show AW _ _ (.cond _ _ _) _ _ _; first | refine aw_if_t rfl ?_ | refine aw_if_f rfl ?_) | (show AW _ _ (.skip) _ _ _; refine aw_skip ?_; first | show AW _ _ _ _ _ _ | show ∃ x', _ < _ ∧ _) | (show AW _ _ (.goto _) _ _ _; refine aw_goto ?_; try dsimp only [thenA, inBlockA, jumpA, noGotoA]) | (show AW _ _ (.ret) _ _ _; refine aw_ret ?_; try dsimp only [thenA, inBlockA, jumpA, noGotoA]) | fail)
      exact ret_pure (res_tmp rfl (res_tmp rfl res_nil)) (by rw [hr', hn']; exact Wk.tupL (wk2 (Wk.own _ _ _) (.refl _))) rfl
    by_cases hc : id' > 1 ∧ id' % 64 > 0 ∧ 0 < f
    · obtain ⟨g, rfl⟩ : ∃ g, f = g + 1 := ⟨f - 1, by omega⟩
      have hz : nums (g + 1) id' out = nums g (id' / 64) (out ++ [id' % 64]) := by rw [nums, if_neg h1, if_pos ⟨hc.1, hc.2.1⟩]
      repeat' (first
    | ((show AL _ _ _ _ _ _ _ _; refine al_cons rfl ?_); (first
      | (show AOp _ _ ⟨_, .move _, _, _, _, _⟩ _ _ _; refine r_move hG rfl rfl ?_)
      | (show AOp _ _ ⟨_, .assign _, _, _, _, _⟩ _ _ _; refine r_asg hG rfl rfl ?_)
      | (show AOp _ _ ⟨_, .call ⟨.builtin .len, _, _⟩, _, _, _, _⟩ _ _ _; first | refine r_lenm hG rfl rfl rfl rfl ?_ | refine r_len hG rfl rfl rfl rfl rfl ?_)
      | (show AOp _ _ ⟨_, .binOp .shr _ _ _ _, _, _, _, _⟩ _ _ _; refine r_shr hG rfl rfl rfl rfl (by omega) ?_)
      | (show AOp _ _ ⟨_, .binOp .and _ _ _ _, _, _, _, _⟩ _ _ _; refine r_and63 hG rfl rfl (by omega) rfl ?_)
      | (show AOp _ _ ⟨_, .binOp _ _ _ _ _, _, _, _, _⟩ _ _ _; first | refine r_cmpT hG rfl rfl rfl rfl rfl (by omega) ?_ | refine r_cmpF hG rfl rfl rfl rfl rfl (by omega) ?_ | refine r_strT hG rfl rfl rfl rfl (by first | rfl | assumption) ?_ | refine r_strnF hG rfl rfl rfl rfl (by first | rfl | assumption) ?_ | refine r_strF hG rfl rfl rfl rfl (by assumption) ?_ | refine r_strnT hG rfl rfl rfl rfl (by assumption) ?_ | (refine r_cmp hG rfl rfl rfl rfl rfl (fun h => ?_) (fun h => ?_)) | (first | refine r_str hG rfl rfl rfl rfl (fun h => ?_) (fun h => ?_) | refine r_strn hG rfl rfl rfl rfl (fun h => ?_) (fun h => ?_)) | refine r_beq hG rfl rfl rfl rfl rfl ?_ | refine r_bin' hG rfl rfl rfl ?_)
      | (show AOp _ _ ⟨_, .convert _ _ _, _, _, _, _⟩ _ _ _; first | refine r_tostr hG rfl rfl rfl rfl rfl rfl rfl rfl (by first | exact bytesT_map _ _ | exact bytesT_s _ | rfl) ?_ | refine r_cv8 hG rfl rfl rfl rfl rfl rfl ?_ | refine r_cv16 hG rfl rfl rfl rfl rfl rfl ?_ | refine r_cv_i64 hG rfl rfl rfl rfl rfl (by omega) ?_ | refine r_cv_u64 hG rfl rfl rfl rfl rfl (by omega) ?_ | refine r_cv_u8 hG rfl rfl rfl rfl rfl (by omega) ?_ | refine r_cv_u16 hG rfl rfl rfl rfl rfl (by omega) ?_ | refine r_cvw hG rfl rfl rfl rfl rfl ?_)
      | (show AOp _ _ ⟨_, .pick _ _ _, _, _, _, _⟩ _ _ _; refine r_pick hG rfl rfl rfl ?_)
      | (show AOp _ _ ⟨_, .buildSlice _ _ _, _, _, _, _⟩ _ _ _; first | refine r_mk (sz := 1) hG rfl rfl rfl rfl rfl rfl rfl ?_ | refine r_mk (sz := 2) hG rfl rfl rfl rfl rfl rfl rfl ?_)
      | (show AOp _ _ ⟨_, .call ⟨.builtin .append, _, _⟩, _, _, _, _⟩ _ _ _; first | refine r_appm 0 (ys := [id' % 64]) hG rfl rfl rfl rfl rfl rfl rfl ⟨_, rfl⟩ rfl rfl rfl rfl rfl (by simp only [List.length_append, List.length_map, List.length_cons, List.length_nil]; omega) (fun k => ?_) | refine r_app0m (sz := 1) (xs := []) hG rfl rfl rfl rfl rfl rfl rfl ⟨_, rfl⟩ rfl rfl rfl rfl rfl rfl rfl (by first | omega | (simp; omega)) (fun k => ?_) | refine r_appm 0 hG rfl rfl rfl rfl rfl rfl rfl ⟨_, rfl⟩ rfl rfl rfl rfl rfl (by first | omega | (simp only [List.length_append, List.length_cons, List.length_nil]; omega)) (fun k => ?_) | fail)
      | refine r_q hG rfl rfl rfl ?_))
    | (show AL _ _ _ _ _ _ _ _; first | refine al_s rfl rfl rfl ?_ | (refine al_nil ?_; first | show AW _ _ _ _ _ _ | show ∃ x', _ < _ ∧ _)) | (show AW _ _ (.seq _ _) _ _ _; refine aw_seq' ?_; intro Q1) | (show AW _ _ (.region _ _ false) _ _ _; refine aw_regL' ?_; intro O1) | (show AW _ _ (.cond _ _ _) _ _ _; first | refine aw_if_t rfl ?_ | refine aw_if_f rfl ?_) | (show AW _ _ (.skip) _ _ _; refine aw_skip ?_; first | show AW _ _ _ _ _ _ | show ∃ x', _ < _ ∧ _) | (show AW _ _ (.goto _) _ _ _; refine aw_goto ?_; try dsimp only [thenA, inBlockA, jumpA, noGotoA]) | (show AW _ _ (.ret) _ _ _; refine aw_ret ?_; try dsimp only [thenA, inBlockA, jumpA, noGotoA]) | fail)
      refine ⟨rfl, ⟨g, by omega, id' / 64, by omega, out ++ [id' % 64], by simp; omega, by rw [← hz]; exact hr, _⟩, by dsimp only; omega, ?_, drop_tok⟩
      exact .consW rfl (.int (shr6 id')) (.cons rfl (.nil _))
    · have hz : nums f id' out = none := by
        cases f with
        | zero => rw [nums, if_neg h1]
        | succ g => rw [nums, if_neg h1, if_neg (fun h => hc ⟨h.1, h.2, by omega⟩)]
      rw [hz] at hr' hn'
      repeat' (first
    | ((show AL _ _ _ _ _ _ _ _; refine al_cons rfl ?_); (first
      | (show AOp _ _ ⟨_, .move _, _, _, _, _⟩ _ _ _; refine r_move hG rfl rfl ?_)
      | (show AOp _ _ ⟨_, .assign _, _, _, _, _⟩ _ _ _; refine r_asg hG rfl rfl ?_)
      | (show AOp _ _ ⟨_, .call ⟨.builtin .len, _, _⟩, _, _, _, _⟩ _ _ _; first | refine r_lenm hG rfl rfl rfl rfl ?_ | refine r_len hG rfl rfl rfl rfl rfl ?_)
      | (show AOp _ _ ⟨_, .binOp .shr _ _ _ _, _, _, _, _⟩ _ _ _; refine r_shr hG rfl rfl rfl rfl (by omega) ?_)
      | (show AOp _ _ ⟨_, .binOp .and _ _ _ _, _, _, _, _⟩ _ _ _; refine r_and63 hG rfl rfl (by omega) rfl ?_)
      | (show AOp _ _ ⟨_, .binOp _ _ _ _ _, _, _, _, _⟩ _ _ _; first | refine r_cmpT hG rfl rfl rfl rfl rfl (by omega) ?_ | refine r_cmpF hG rfl rfl rfl rfl rfl (by omega) ?_ | refine r_strT hG rfl rfl rfl rfl (by first | rfl | assumption) ?_ | refine r_strnF hG rfl rfl rfl rfl (by first | rfl | assumption) ?_ | refine r_strF hG rfl rfl rfl rfl (by assumption) ?_ | refine r_strnT hG rfl rfl rfl rfl (by assumption) ?_ | (refine r_cmp hG rfl rfl rfl rfl rfl (fun h => ?_) (fun h => ?_)) | (first | refine r_str hG rfl rfl rfl rfl (fun h => ?_) (fun h => ?_) | refine r_strn hG rfl rfl rfl rfl (fun h => ?_) (fun h => ?_)) | refine r_beq hG rfl rfl rfl rfl rfl ?_ | refine r_bin' hG rfl rfl rfl ?_)
      | (show AOp _ _ ⟨_, .convert _ _ _, _, _, _, _⟩ _ _ _; first | refine r_tostr hG rfl rfl rfl rfl rfl rfl rfl rfl (by first | exact bytesT_map _ _ | exact bytesT_s _ | rfl) ?_ | refine r_cv8 hG rfl rfl rfl rfl rfl rfl ?_ | refine r_cv16 hG rfl rfl rfl rfl rfl rfl ?_ | refine r_cv_i64 hG rfl rfl rfl rfl rfl (by omega) ?_ | refine r_cv_u64 hG rfl rfl rfl rfl rfl (by omega) ?_ | refine r_cv_u8 hG rfl rfl rfl rfl rfl (by omega) ?_ | refine r_cv_u16 hG rfl rfl rfl rfl rfl (by omega) ?_ | refine r_cvw hG rfl rfl rfl rfl rfl ?_)
      | (show AOp _ _ ⟨_, .pick _ _ _, _, _, _, _⟩ _ _ _; refine r_pick hG rfl rfl rfl ?_)
      | (show AOp _ _ ⟨_, .buildSlice _ _ _, _, _, _, _⟩ _ _ _; first | refine r_mk (sz := 1) hG rfl rfl rfl rfl rfl rfl rfl ?_ | refine r_mk (sz := 2) hG rfl rfl rfl rfl rfl rfl rfl ?_)
      | (show AOp _ _ ⟨_, .call ⟨.builtin .append, _, _⟩, _, _, _, _⟩ _ _ _; first | refine r_app0m (sz := 1) (xs := []) hG rfl rfl rfl rfl rfl rfl rfl ⟨_, rfl⟩ rfl rfl rfl rfl rfl rfl rfl (by first | omega | (simp; omega)) (fun k => ?_) | refine r_appm 0 hG rfl rfl rfl rfl rfl rfl rfl ⟨_, rfl⟩ rfl rfl rfl rfl rfl (by first | omega | (simp only [List.length_append, List.length_cons, List.length_nil]; omega)) (fun k => ?_) | fail)
      | refine r_q hG rfl rfl rfl ?_))
    | (show AL _ _ _ _ _ _ _ _; first | refine al_s rfl rfl rfl ?_ | (refine al_nil ?_; first | show AW _ _ _ _ _ _ | show ∃ x', _ < _ ∧ _)) | (show AW _ _ (.seq _ _) _ _ _; refine aw_seq' ?_; intro Q1) | (show AW _ _ (.region _ _ false) _ _ _; refine aw_regL' ?_; intro O1) | (show AW _ _ (.cond _ _ _) _ _ _; first | refine aw_if_t rfl ?_ | refine aw_if_f rfl ?_) | (show AW _ _ (.skip) _ _ _; refine aw_skip ?_; first | show AW _ _ _ _ _ _ | show ∃ x', _ < _ ∧ _) | (show AW _ _ (.goto _) _ _ _; refine aw_goto ?_; try dsimp only [thenA, inBlockA, jumpA, noGotoA]) | (show AW _ _ (.ret) _ _ _; refine aw_ret ?_; try dsimp only [thenA, inBlockA, jumpA, noGotoA]) | fail)
      all_goals exact ret_pure (res_tmp rfl (res_tmp rfl res_nil)) (by rw [hr', hn']; exact .refl _) rfl
  · intro key
    repeat' (first
    | ((show AL _ _ _ _ _ _ _ _; refine al_cons rfl ?_); (first
      | (show AOp _ _ ⟨_, .move _, _, _, _, _⟩ _ _ _; refine r_move hG rfl rfl ?_)
      | (show AOp _ _ ⟨_, .assign _, _, _, _, _⟩ _ _ _; refine r_asg hG rfl rfl ?_)
      | (show AOp _ _ ⟨_, .call ⟨.builtin .len, _, _⟩, _, _, _, _⟩ _ _ _; first | refine r_lenm hG rfl rfl rfl rfl ?_ | refine r_len hG rfl rfl rfl rfl rfl ?_)
      | (show AOp _ _ ⟨_, .binOp .shr _ _ _ _, _, _, _, _⟩ _ _ _; refine r_shr hG rfl rfl rfl rfl (by omega) ?_)
      | (show AOp _ _ ⟨_, .binOp .and _ _ _ _, _, _, _, _⟩ _ _ _; refine r_and63 hG rfl rfl (by omega) rfl ?_)
      | (show AOp _ _ ⟨_, .binOp _ _ _ _ _, _, _, _, _⟩ _ _ _; first | refine r_cmpT hG rfl rfl rfl rfl rfl (by omega) ?_ | refine r_cmpF hG rfl rfl rfl rfl rfl (by omega) ?_ | refine r_strT hG rfl rfl rfl rfl (by first | rfl | assumption) ?_ | refine r_strnF hG rfl rfl rfl rfl (by first | rfl | assumption) ?_ | refine r_strF hG rfl rfl rfl rfl (by assumption) ?_ | refine r_strnT hG rfl rfl rfl rfl (by assumption) ?_ | (refine r_cmp hG rfl rfl rfl rfl rfl (fun h => ?_) (fun h => ?_)) | (first | refine r_str hG rfl rfl rfl rfl (fun h => ?_) (fun h => ?_) | refine r_strn hG rfl rfl rfl rfl (fun h => ?_) (fun h => ?_)) | refine r_beq hG rfl rfl rfl rfl rfl ?_ | refine r_bin' hG rfl rfl rfl ?_)
      | (show AOp _ _ ⟨_, .convert _ _ _, _, _, _, _⟩ _ _ _; first | refine r_tostr hG rfl rfl rfl rfl rfl rfl rfl rfl (by first | exact bytesT_map _ _ | exact bytesT_s _ | rfl) ?_ | refine r_cv8 hG rfl rfl rfl rfl rfl rfl ?_ | refine r_cv16 hG rfl rfl rfl rfl rfl rfl ?_ | refine r_cv_i64 hG rfl rfl rfl rfl rfl (by omega) ?_ | refine r_cv_u64 hG rfl rfl rfl rfl rfl (by omega) ?_ | refine r_cv_u8 hG rfl rfl rfl rfl rfl (by omega) ?_ | refine r_cv_u16 hG rfl rfl rfl rfl rfl (by omega) ?_ | refine r_cvw hG rfl rfl rfl rfl rfl ?_)
      | (show AOp _ _ ⟨_, .pick _ _ _, _, _, _, _⟩ _ _ _; refine r_pick hG rfl rfl rfl ?_)
      | (show AOp _ _ ⟨_, .buildSlice _ _ _, _, _, _, _⟩ _ _ _; first | refine r_mk (sz := 1) hG rfl rfl rfl rfl rfl rfl rfl ?_ | refine r_mk (sz := 2) hG rfl rfl rfl rfl rfl rfl rfl ?_)
      | (show AOp _ _ ⟨_, .call ⟨.builtin .append, _, _⟩, _, _, _, _⟩ _ _ _; first | refine r_app0m (sz := 1) (xs := []) hG rfl rfl rfl rfl rfl rfl rfl ⟨_, rfl⟩ rfl rfl rfl rfl rfl rfl rfl (by first | omega | (simp; omega)) (fun k => ?_) | refine r_appm 0 hG rfl rfl rfl rfl rfl rfl rfl ⟨_, rfl⟩ rfl rfl rfl rfl rfl (by first | omega | (simp only [List.length_append, List.length_cons, List.length_nil]; omega)) (fun k => ?_) | fail)
      | refine r_q hG rfl rfl rfl ?_))
    | (show AL _ _ _ _ _ _ _ _; first | refine al_s rfl rfl rfl ?_ | (refine al_nil ?_; first | show AW _ _ _ _ _ _ | show ∃ x', _ < _ ∧ _)) | (show AW _ _ (.seq _ _) _ _ _; refine aw_seq' ?_; intro Q1) | (show AW _ _ (.region _ _ false) _ _ _; refine aw_regL' ?_; intro O1) | (show AW _ _ (.cond _ _ _) _ _ _; first | refine aw_if_t rfl ?_ | refine aw_if_f rfl ?_) | (show AW _ _ (.skip) _ _ _; refine aw_skip ?_; first | show AW _ _ _ _ _ _ | show ∃ x', _ < _ ∧ _) | (show AW _ _ (.goto _) _ _ _; refine aw_goto ?_; try dsimp only [thenA, inBlockA, jumpA, noGotoA]) | (show AW _ _ (.ret) _ _ _; refine aw_ret ?_; try dsimp only [thenA, inBlockA, jumpA, noGotoA]) | fail)
    refine aw_label ?_
    show AW _ _ _ _ _ _
    refine aw_tok0 4 1 rfl rfl rfl rfl (fun k => ?_)
    refine aw_forget ?_ (key ⟨6, by omega, id, h, [], rfl, rfl, k⟩)
    exact .cons rfl (.cons rfl (.nil _))
theorem name_May {id : Nat} (h : id < 18446744073709551616) : Ts.Pure Try.prog 57 [.int .u64 id] (.bool (nameB id)) := by
  intro off
  refine acalls_mk (N := 11) (rs := [.tmp 2]) hG Try.func57 rfl rfl rfl rfl rfl ?_
  have hc := name_numbers h
  repeat' (first
    | ((show AL _ _ _ _ _ _ _ _; refine al_cons rfl ?_); (first
      | (show AOp _ _ ⟨_, .move _, _, _, _, _⟩ _ _ _; refine r_move hG rfl rfl ?_)
      | (show AOp _ _ ⟨_, .assign _, _, _, _, _⟩ _ _ _; refine r_asg hG rfl rfl ?_)
      | (show AOp _ _ ⟨_, .call ⟨.value _, _, _⟩, _, _, _, _⟩ _ _ _; first | refine r_pure rfl rfl rfl rfl rfl (by apply hc <;> (first | assumption | omega | exact bytesT_map _ _ | exact bytesT_s _ | exact catsT_map _ _ | exact catsT_c _ | rfl | (simp; omega))) ?_ | fail)
      | refine r_q hG rfl rfl rfl ?_))
    | (show AL _ _ _ _ _ _ _ _; first | refine al_s rfl rfl rfl ?_ | (refine al_nil ?_; first | show AW _ _ _ _ _ _ | show ∃ x', _ < _ ∧ _)) | (show AW _ _ (.seq _ _) _ _ _; refine aw_seq' ?_; intro Q1) | (show AW _ _ (.region _ _ false) _ _ _; refine aw_regL' ?_; intro O1) | (show AW _ _ (.ret) _ _ _; refine aw_ret ?_; try dsimp only [thenA, inBlockA, jumpA, noGotoA]) | fail)
  exact ret_pure (res_tmp rfl res_nil) (.refl _) rfl
/-- The document's path. -/
def pathR : Nat → Nat → List Nat → Option (List Nat)
  | 0, id, l => if id = 1 ∧ l.length ≤ 6 then some (1 :: l) else none
  | f + 1, id, l => if id > 1 then (if id % 64 = 0 then none else pathR f (id / 64) (id :: l)) else if id = 1 ∧ l.length ≤ 6 then some (1 :: l) else none
theorem pathR_long : ∀ (f id : Nat) (l : List Nat), 6 < l.length → pathR f id l = none
  | 0, id, l, h => by rw [pathR, if_neg (by omega)]
  | f + 1, id, l, h => by
    rw [pathR]
    split
    · split
      · rfl
      · exact pathR_long f _ _ (by simp; omega)
    · rw [if_neg (by omega)]
theorem nums_path : ∀ (f g id : Nat) (out l : List Nat), f ≤ g → l.length + f = 6 → (pathR (g + 1) id l).isSome = (nums f id out).isSome
  | 0, g, id, out, l, hg, hl => by
    rw [nums, pathR]
    by_cases h1 : id = 1
    · rw [if_neg (by omega), if_pos ⟨h1, by omega⟩, if_pos h1]; try rfl
    · rw [if_neg h1]
      split
      · split
        · rfl
        · rw [pathR_long _ _ _ (by simp; omega)]
      · rw [if_neg (by omega)]
  | f + 1, g, id, out, l, hg, hl => by
    rw [nums, pathR]
    by_cases h1 : id = 1
    · rw [if_neg (by omega), if_pos ⟨h1, by omega⟩, if_pos h1]; try rfl
    · rw [if_neg h1]
      by_cases h2 : id > 1
      · rw [if_pos h2]
        by_cases h3 : id % 64 = 0
        · rw [if_pos h3, if_neg (by omega)]; try rfl
        · rw [if_neg h3, if_pos ⟨h2, by omega⟩]
          obtain ⟨g', rfl⟩ : ∃ g', g = g' + 1 := ⟨g - 1, by omega⟩
          exact nums_path f g' (id / 64) _ (id :: l) (by omega) (by simp; omega)
      · rw [if_neg h2, if_neg (by omega), if_neg (by omega)]; try rfl
theorem path_name (id : Nat) : (pathR 20 id []).isSome = nameB id := nums_path 6 19 id [] [] (by omega) rfl
structure PaX (id : Nat) where
  f : Nat
  hf : f ≤ 20
  id' : Nat
  h64 : id' < 18446744073709551616
  l : List Nat
  hl : l.length ≤ 20 - f
  hr : pathR f id' l = pathR 20 id []
  k : Nat
theorem quo64 (v : Nat) (h : v < 18446744073709551616) : IntKind.u64.wrap ((v : Int).tdiv 64) = ((v / 64 : Nat) : Int) := by
  rw [Int.tdiv_eq_ediv_of_nonneg (by omega), u64_in (by omega) (by omega)]; omega
def pathT (id : Nat) : T := match pathR 20 id [] with
  | some l => .sl 1 .no (l.map wT)
  | none => .nilsl
theorem ref_Path {id : Nat} (h : id < 18446744073709551616) : Ts.Pure Try.prog 84 [.int .u64 id] (pathT id) := by
  intro off
  refine acalls_mk (N := 32) (rs := [.tmp 2]) hG Try.func84 rfl rfl rfl rfl rfl ?_
  repeat' (first
    | ((show AL _ _ _ _ _ _ _ _; refine al_cons rfl ?_); (first
      | (show AOp _ _ ⟨_, .move _, _, _, _, _⟩ _ _ _; refine r_move hG rfl rfl ?_)
      | (show AOp _ _ ⟨_, .assign _, _, _, _, _⟩ _ _ _; refine r_asg hG rfl rfl ?_)
      | (show AOp _ _ ⟨_, .call ⟨.builtin .len, _, _⟩, _, _, _, _⟩ _ _ _; first | refine r_lenm hG rfl rfl rfl rfl ?_ | refine r_len hG rfl rfl rfl rfl rfl ?_)
      | (show AOp _ _ ⟨_, .binOp .add _ _ _ _, _, _, _, _⟩ _ _ _; first | refine r_ari64 hG rfl rfl rfl rfl rfl (by omega) ?_ | refine r_aru64 hG rfl rfl rfl rfl rfl (by omega) ?_ | refine r_aru8 hG rfl rfl rfl rfl rfl (by omega) ?_ | refine r_aru16 hG rfl rfl rfl rfl rfl (by omega) ?_)
      | (show AOp _ _ ⟨_, .binOp .rem _ _ _ _, _, _, _, _⟩ _ _ _; first | refine r_rem hG rfl rfl rfl rfl (by omega) ?_ | refine r_trem hG rfl rfl rfl rfl (by omega) ?_)
      | (show AOp _ _ ⟨_, .binOp _ _ _ _ _, _, _, _, _⟩ _ _ _; first | refine r_cmpT hG rfl rfl rfl rfl rfl (by omega) ?_ | refine r_cmpF hG rfl rfl rfl rfl rfl (by omega) ?_ | refine r_strT hG rfl rfl rfl rfl (by first | rfl | assumption) ?_ | refine r_strnF hG rfl rfl rfl rfl (by first | rfl | assumption) ?_ | refine r_strF hG rfl rfl rfl rfl (by assumption) ?_ | refine r_strnT hG rfl rfl rfl rfl (by assumption) ?_ | (refine r_cmp hG rfl rfl rfl rfl rfl (fun h => ?_) (fun h => ?_)) | (first | refine r_str hG rfl rfl rfl rfl (fun h => ?_) (fun h => ?_) | refine r_strn hG rfl rfl rfl rfl (fun h => ?_) (fun h => ?_)) | refine r_beq hG rfl rfl rfl rfl rfl ?_ | refine r_bin' hG rfl rfl rfl ?_)
      | (show AOp _ _ ⟨_, .pick _ _ _, _, _, _, _⟩ _ _ _; refine r_pick hG rfl rfl rfl ?_)
      | (show AOp _ _ ⟨_, .buildSlice _ _ _, _, _, _, _⟩ _ _ _; first | refine r_mk (sz := 1) hG rfl rfl rfl rfl rfl rfl rfl ?_ | refine r_mk (sz := 2) hG rfl rfl rfl rfl rfl rfl rfl ?_)
      | (show AOp _ _ ⟨_, .call ⟨.builtin .append, _, _⟩, _, _, _, _⟩ _ _ _; first | refine r_app0m (sz := 1) (xs := []) hG rfl rfl rfl rfl rfl rfl rfl ⟨_, rfl⟩ rfl rfl rfl rfl rfl rfl rfl (by first | omega | (simp; omega)) (fun k => ?_) | refine r_appm 0 hG rfl rfl rfl rfl rfl rfl rfl ⟨_, rfl⟩ rfl rfl rfl rfl rfl (by first | omega | (simp only [List.length_append, List.length_cons, List.length_nil]; omega)) (fun k => ?_) | fail)
      | refine r_q hG rfl rfl rfl ?_))
    | (show AL _ _ _ _ _ _ _ _; first | refine al_s rfl rfl rfl ?_ | (refine al_nil ?_; first | show AW _ _ _ _ _ _ | show ∃ x', _ < _ ∧ _)) | (show AW _ _ (.seq _ _) _ _ _; refine aw_seq' ?_; intro Q1) | (show AW _ _ (.region _ _ false) _ _ _; refine aw_regL' ?_; intro O1) | (show AW _ _ (.cond _ _ _) _ _ _; first | refine aw_if_t rfl ?_ | refine aw_if_f rfl ?_) | (show AW _ _ (.skip) _ _ _; refine aw_skip ?_; first | show AW _ _ _ _ _ _ | show ∃ x', _ < _ ∧ _) | (show AW _ _ (.block _ _) _ _ _; refine aw_block' ?_; intro Q1) | (show AW _ _ (.exit _) _ _ _; refine aw_exit ?_; first | show AW _ _ _ _ _ _ | show ∃ x', _ < _ ∧ _) | (show AW _ _ (.ret) _ _ _; refine aw_ret ?_; try dsimp only [thenA, inBlockA, jumpA, noGotoA]) | fail)
  refine aw_tok0 3 1 rfl rfl rfl rfl (fun k => ?_)
  refine aw_loop (X := PaX id) (fun x => [(0, .int .u64 x.id'), (3, .sl 1 (.tok x.k) (x.l.map wT)), (4, .int .i64 (20 - x.f : Nat))]) (fun x => ⟨[], [x.k], off, none⟩) (fun x => x.f) ⟨20, Nat.le_refl _, id, h, [], by simp, rfl, k⟩ ?_ (.refl _) ?_
  · exact .cons rfl (.cons rfl (.consW rfl (.int rfl) (.nil _)))
  rintro ⟨f, hf, id', h64, l, hl, hr, k⟩
  dsimp only
  have hr' : pathT id = match pathR f id' l with
      | some l => .sl 1 .no (l.map wT)
      | none => .nilsl := by rw [hr]; rfl
  by_cases hc : id' > 1 ∧ 0 < f
  · obtain ⟨g, rfl⟩ : ∃ g, f = g + 1 := ⟨f - 1, by omega⟩
    by_cases hm : id' % 64 = 0
    · have hz : pathR (g + 1) id' l = none := by rw [pathR, if_pos hc.1, if_pos hm]
      rw [hz] at hr'
      repeat' (first
    | ((show AL _ _ _ _ _ _ _ _; refine al_cons rfl ?_); (first
      | (show AOp _ _ ⟨_, .move _, _, _, _, _⟩ _ _ _; refine r_move hG rfl rfl ?_)
      | (show AOp _ _ ⟨_, .assign _, _, _, _, _⟩ _ _ _; refine r_asg hG rfl rfl ?_)
      | (show AOp _ _ ⟨_, .call ⟨.builtin .len, _, _⟩, _, _, _, _⟩ _ _ _; first | refine r_lenm hG rfl rfl rfl rfl ?_ | refine r_len hG rfl rfl rfl rfl rfl ?_)
      | (show AOp _ _ ⟨_, .binOp .add _ _ _ _, _, _, _, _⟩ _ _ _; first | refine r_ari64 hG rfl rfl rfl rfl rfl (by omega) ?_ | refine r_aru64 hG rfl rfl rfl rfl rfl (by omega) ?_ | refine r_aru8 hG rfl rfl rfl rfl rfl (by omega) ?_ | refine r_aru16 hG rfl rfl rfl rfl rfl (by omega) ?_)
      | (show AOp _ _ ⟨_, .binOp .rem _ _ _ _, _, _, _, _⟩ _ _ _; first | refine r_rem hG rfl rfl rfl rfl (by omega) ?_ | refine r_trem hG rfl rfl rfl rfl (by omega) ?_)
      | (show AOp _ _ ⟨_, .binOp _ _ _ _ _, _, _, _, _⟩ _ _ _; first | refine r_cmpT hG rfl rfl rfl rfl rfl (by omega) ?_ | refine r_cmpF hG rfl rfl rfl rfl rfl (by omega) ?_ | refine r_strT hG rfl rfl rfl rfl (by first | rfl | assumption) ?_ | refine r_strnF hG rfl rfl rfl rfl (by first | rfl | assumption) ?_ | refine r_strF hG rfl rfl rfl rfl (by assumption) ?_ | refine r_strnT hG rfl rfl rfl rfl (by assumption) ?_ | (refine r_cmp hG rfl rfl rfl rfl rfl (fun h => ?_) (fun h => ?_)) | (first | refine r_str hG rfl rfl rfl rfl (fun h => ?_) (fun h => ?_) | refine r_strn hG rfl rfl rfl rfl (fun h => ?_) (fun h => ?_)) | refine r_beq hG rfl rfl rfl rfl rfl ?_ | refine r_bin' hG rfl rfl rfl ?_)
      | (show AOp _ _ ⟨_, .pick _ _ _, _, _, _, _⟩ _ _ _; refine r_pick hG rfl rfl rfl ?_)
      | (show AOp _ _ ⟨_, .buildSlice _ _ _, _, _, _, _⟩ _ _ _; first | refine r_mk (sz := 1) hG rfl rfl rfl rfl rfl rfl rfl ?_ | refine r_mk (sz := 2) hG rfl rfl rfl rfl rfl rfl rfl ?_)
      | (show AOp _ _ ⟨_, .call ⟨.builtin .append, _, _⟩, _, _, _, _⟩ _ _ _; first | refine r_app0m (sz := 1) (xs := []) hG rfl rfl rfl rfl rfl rfl rfl ⟨_, rfl⟩ rfl rfl rfl rfl rfl rfl rfl (by first | omega | (simp; omega)) (fun k => ?_) | refine r_appm 0 hG rfl rfl rfl rfl rfl rfl rfl ⟨_, rfl⟩ rfl rfl rfl rfl rfl (by first | omega | (simp only [List.length_append, List.length_cons, List.length_nil]; omega)) (fun k => ?_) | fail)
      | refine r_q hG rfl rfl rfl ?_))
    | (show AL _ _ _ _ _ _ _ _; first | refine al_s rfl rfl rfl ?_ | (refine al_nil ?_; first | show AW _ _ _ _ _ _ | show ∃ x', _ < _ ∧ _)) | (show AW _ _ (.seq _ _) _ _ _; refine aw_seq' ?_; intro Q1) | (show AW _ _ (.region _ _ false) _ _ _; refine aw_regL' ?_; intro O1) | (show AW _ _ (.cond _ _ _) _ _ _; first | refine aw_if_t rfl ?_ | refine aw_if_f rfl ?_) | (show AW _ _ (.skip) _ _ _; refine aw_skip ?_; first | show AW _ _ _ _ _ _ | show ∃ x', _ < _ ∧ _) | (show AW _ _ (.block _ _) _ _ _; refine aw_block' ?_; intro Q1) | (show AW _ _ (.exit _) _ _ _; refine aw_exit ?_; first | show AW _ _ _ _ _ _ | show ∃ x', _ < _ ∧ _) | (show AW _ _ (.ret) _ _ _; refine aw_ret ?_; try dsimp only [thenA, inBlockA, jumpA, noGotoA]) | fail)
      exact ret_pure (res_tmp rfl res_nil) (by rw [hr']; exact .refl _) rfl
    · have hz : pathR (g + 1) id' l = pathR g (id' / 64) (id' :: l) := by rw [pathR, if_pos hc.1, if_neg hm]
      repeat' (first
    | ((show AL _ _ _ _ _ _ _ _; refine al_cons rfl ?_); (first
      | (show AOp _ _ ⟨_, .move _, _, _, _, _⟩ _ _ _; refine r_move hG rfl rfl ?_)
      | (show AOp _ _ ⟨_, .assign _, _, _, _, _⟩ _ _ _; refine r_asg hG rfl rfl ?_)
      | (show AOp _ _ ⟨_, .call ⟨.builtin .len, _, _⟩, _, _, _, _⟩ _ _ _; first | refine r_lenm hG rfl rfl rfl rfl ?_ | refine r_len hG rfl rfl rfl rfl rfl ?_)
      | (show AOp _ _ ⟨_, .binOp .add _ _ _ _, _, _, _, _⟩ _ _ _; first | refine r_ari64 hG rfl rfl rfl rfl rfl (by omega) ?_ | refine r_aru64 hG rfl rfl rfl rfl rfl (by omega) ?_ | refine r_aru8 hG rfl rfl rfl rfl rfl (by omega) ?_ | refine r_aru16 hG rfl rfl rfl rfl rfl (by omega) ?_)
      | (show AOp _ _ ⟨_, .binOp .rem _ _ _ _, _, _, _, _⟩ _ _ _; first | refine r_rem hG rfl rfl rfl rfl (by omega) ?_ | refine r_trem hG rfl rfl rfl rfl (by omega) ?_)
      | (show AOp _ _ ⟨_, .binOp _ _ _ _ _, _, _, _, _⟩ _ _ _; first | refine r_cmpT hG rfl rfl rfl rfl rfl (by omega) ?_ | refine r_cmpF hG rfl rfl rfl rfl rfl (by omega) ?_ | refine r_strT hG rfl rfl rfl rfl (by first | rfl | assumption) ?_ | refine r_strnF hG rfl rfl rfl rfl (by first | rfl | assumption) ?_ | refine r_strF hG rfl rfl rfl rfl (by assumption) ?_ | refine r_strnT hG rfl rfl rfl rfl (by assumption) ?_ | (refine r_cmp hG rfl rfl rfl rfl rfl (fun h => ?_) (fun h => ?_)) | (first | refine r_str hG rfl rfl rfl rfl (fun h => ?_) (fun h => ?_) | refine r_strn hG rfl rfl rfl rfl (fun h => ?_) (fun h => ?_)) | refine r_beq hG rfl rfl rfl rfl rfl ?_ | refine r_bin' hG rfl rfl rfl ?_)
      | (show AOp _ _ ⟨_, .pick _ _ _, _, _, _, _⟩ _ _ _; refine r_pick hG rfl rfl rfl ?_)
      | (show AOp _ _ ⟨_, .buildSlice _ _ _, _, _, _, _⟩ _ _ _; first | refine r_mk (sz := 1) hG rfl rfl rfl rfl rfl rfl rfl ?_ | refine r_mk (sz := 2) hG rfl rfl rfl rfl rfl rfl rfl ?_)
      | (show AOp _ _ ⟨_, .call ⟨.builtin .append, _, _⟩, _, _, _, _⟩ _ _ _; first | refine r_app0m (sz := 1) (xs := []) hG rfl rfl rfl rfl rfl rfl rfl ⟨_, rfl⟩ rfl rfl rfl rfl rfl rfl rfl (by first | omega | (simp; omega)) (fun k => ?_) | refine r_appm 0 hG rfl rfl rfl rfl rfl rfl rfl ⟨_, rfl⟩ rfl rfl rfl rfl rfl (by first | omega | (simp only [List.length_append, List.length_cons, List.length_nil]; omega)) (fun k => ?_) | fail)
      | refine r_q hG rfl rfl rfl ?_))
    | (show AL _ _ _ _ _ _ _ _; first | refine al_s rfl rfl rfl ?_ | (refine al_nil ?_; first | show AW _ _ _ _ _ _ | show ∃ x', _ < _ ∧ _)) | (show AW _ _ (.seq _ _) _ _ _; refine aw_seq' ?_; intro Q1) | (show AW _ _ (.region _ _ false) _ _ _; refine aw_regL' ?_; intro O1) | (show AW _ _ (.cond _ _ _) _ _ _; first | refine aw_if_t rfl ?_ | refine aw_if_f rfl ?_) | (show AW _ _ (.skip) _ _ _; refine aw_skip ?_; first | show AW _ _ _ _ _ _ | show ∃ x', _ < _ ∧ _) | (show AW _ _ (.block _ _) _ _ _; refine aw_block' ?_; intro Q1) | (show AW _ _ (.exit _) _ _ _; refine aw_exit ?_; first | show AW _ _ _ _ _ _ | show ∃ x', _ < _ ∧ _) | (show AW _ _ (.ret) _ _ _; refine aw_ret ?_; try dsimp only [thenA, inBlockA, jumpA, noGotoA]) | fail)
      refine al_cons rfl (r_app0m (sz := 1) (f := wT) (xs := [id']) (ys := l) hG rfl rfl rfl rfl rfl rfl rfl ⟨_, rfl⟩ rfl rfl rfl rfl rfl rfl rfl (by simp; omega) (fun k2 => ?_))
      repeat' (first
    | ((show AL _ _ _ _ _ _ _ _; refine al_cons rfl ?_); (first
      | (show AOp _ _ ⟨_, .move _, _, _, _, _⟩ _ _ _; refine r_move hG rfl rfl ?_)
      | (show AOp _ _ ⟨_, .assign _, _, _, _, _⟩ _ _ _; refine r_asg hG rfl rfl ?_)
      | (show AOp _ _ ⟨_, .call ⟨.builtin .len, _, _⟩, _, _, _, _⟩ _ _ _; first | refine r_lenm hG rfl rfl rfl rfl ?_ | refine r_len hG rfl rfl rfl rfl rfl ?_)
      | (show AOp _ _ ⟨_, .binOp .add _ _ _ _, _, _, _, _⟩ _ _ _; first | refine r_ari64 hG rfl rfl rfl rfl rfl (by omega) ?_ | refine r_aru64 hG rfl rfl rfl rfl rfl (by omega) ?_ | refine r_aru8 hG rfl rfl rfl rfl rfl (by omega) ?_ | refine r_aru16 hG rfl rfl rfl rfl rfl (by omega) ?_)
      | (show AOp _ _ ⟨_, .binOp .rem _ _ _ _, _, _, _, _⟩ _ _ _; first | refine r_rem hG rfl rfl rfl rfl (by omega) ?_ | refine r_trem hG rfl rfl rfl rfl (by omega) ?_)
      | (show AOp _ _ ⟨_, .binOp _ _ _ _ _, _, _, _, _⟩ _ _ _; first | refine r_cmpT hG rfl rfl rfl rfl rfl (by omega) ?_ | refine r_cmpF hG rfl rfl rfl rfl rfl (by omega) ?_ | refine r_strT hG rfl rfl rfl rfl (by first | rfl | assumption) ?_ | refine r_strnF hG rfl rfl rfl rfl (by first | rfl | assumption) ?_ | refine r_strF hG rfl rfl rfl rfl (by assumption) ?_ | refine r_strnT hG rfl rfl rfl rfl (by assumption) ?_ | (refine r_cmp hG rfl rfl rfl rfl rfl (fun h => ?_) (fun h => ?_)) | (first | refine r_str hG rfl rfl rfl rfl (fun h => ?_) (fun h => ?_) | refine r_strn hG rfl rfl rfl rfl (fun h => ?_) (fun h => ?_)) | refine r_beq hG rfl rfl rfl rfl rfl ?_ | refine r_bin' hG rfl rfl rfl ?_)
      | (show AOp _ _ ⟨_, .pick _ _ _, _, _, _, _⟩ _ _ _; refine r_pick hG rfl rfl rfl ?_)
      | (show AOp _ _ ⟨_, .buildSlice _ _ _, _, _, _, _⟩ _ _ _; first | refine r_mk (sz := 1) hG rfl rfl rfl rfl rfl rfl rfl ?_ | refine r_mk (sz := 2) hG rfl rfl rfl rfl rfl rfl rfl ?_)
      | (show AOp _ _ ⟨_, .call ⟨.builtin .append, _, _⟩, _, _, _, _⟩ _ _ _; first | refine r_app0m (sz := 1) (xs := []) hG rfl rfl rfl rfl rfl rfl rfl ⟨_, rfl⟩ rfl rfl rfl rfl rfl rfl rfl (by first | omega | (simp; omega)) (fun k => ?_) | refine r_appm 0 hG rfl rfl rfl rfl rfl rfl rfl ⟨_, rfl⟩ rfl rfl rfl rfl rfl (by first | omega | (simp only [List.length_append, List.length_cons, List.length_nil]; omega)) (fun k => ?_) | fail)
      | refine r_q hG rfl rfl rfl ?_))
    | (show AL _ _ _ _ _ _ _ _; first | refine al_s rfl rfl rfl ?_ | (refine al_nil ?_; first | show AW _ _ _ _ _ _ | show ∃ x', _ < _ ∧ _)) | (show AW _ _ (.seq _ _) _ _ _; refine aw_seq' ?_; intro Q1) | (show AW _ _ (.region _ _ false) _ _ _; refine aw_regL' ?_; intro O1) | (show AW _ _ (.cond _ _ _) _ _ _; first | refine aw_if_t rfl ?_ | refine aw_if_f rfl ?_) | (show AW _ _ (.skip) _ _ _; refine aw_skip ?_; first | show AW _ _ _ _ _ _ | show ∃ x', _ < _ ∧ _) | (show AW _ _ (.block _ _) _ _ _; refine aw_block' ?_; intro Q1) | (show AW _ _ (.exit _) _ _ _; refine aw_exit ?_; first | show AW _ _ _ _ _ _ | show ∃ x', _ < _ ∧ _) | (show AW _ _ (.ret) _ _ _; refine aw_ret ?_; try dsimp only [thenA, inBlockA, jumpA, noGotoA]) | fail)
      refine ⟨⟨g, by omega, id' / 64, by omega, [id'] ++ l, by simp; omega, by rw [← hr, hz]; rfl, k2⟩, by dsimp only; omega, ?_, drop_tok⟩
      exact .consW rfl (.int (quo64 id' h64)) (.cons rfl (.consW rfl (.int (by dsimp only; omega)) (.nil _)))
  · have hz : pathR f id' l = if id' = 1 ∧ l.length ≤ 6 then some (1 :: l) else none := by
      cases f with
      | zero => rw [pathR]
      | succ g => rw [pathR, if_neg (by omega)]
    rw [hz] at hr'
    by_cases hq : id' = 1 ∧ l.length ≤ 6
    · rw [if_pos hq] at hr'
      repeat' (first
    | ((show AL _ _ _ _ _ _ _ _; refine al_cons rfl ?_); (first
      | (show AOp _ _ ⟨_, .move _, _, _, _, _⟩ _ _ _; refine r_move hG rfl rfl ?_)
      | (show AOp _ _ ⟨_, .assign _, _, _, _, _⟩ _ _ _; refine r_asg hG rfl rfl ?_)
      | (show AOp _ _ ⟨_, .call ⟨.builtin .len, _, _⟩, _, _, _, _⟩ _ _ _; first | refine r_lenm hG rfl rfl rfl rfl ?_ | refine r_len hG rfl rfl rfl rfl rfl ?_)
      | (show AOp _ _ ⟨_, .binOp .add _ _ _ _, _, _, _, _⟩ _ _ _; first | refine r_ari64 hG rfl rfl rfl rfl rfl (by omega) ?_ | refine r_aru64 hG rfl rfl rfl rfl rfl (by omega) ?_ | refine r_aru8 hG rfl rfl rfl rfl rfl (by omega) ?_ | refine r_aru16 hG rfl rfl rfl rfl rfl (by omega) ?_)
      | (show AOp _ _ ⟨_, .binOp .rem _ _ _ _, _, _, _, _⟩ _ _ _; first | refine r_rem hG rfl rfl rfl rfl (by omega) ?_ | refine r_trem hG rfl rfl rfl rfl (by omega) ?_)
      | (show AOp _ _ ⟨_, .binOp _ _ _ _ _, _, _, _, _⟩ _ _ _; first | refine r_cmpT hG rfl rfl rfl rfl rfl (by omega) ?_ | refine r_cmpF hG rfl rfl rfl rfl rfl (by omega) ?_ | refine r_strT hG rfl rfl rfl rfl (by first | rfl | assumption) ?_ | refine r_strnF hG rfl rfl rfl rfl (by first | rfl | assumption) ?_ | refine r_strF hG rfl rfl rfl rfl (by assumption) ?_ | refine r_strnT hG rfl rfl rfl rfl (by assumption) ?_ | (refine r_cmp hG rfl rfl rfl rfl rfl (fun h => ?_) (fun h => ?_)) | (first | refine r_str hG rfl rfl rfl rfl (fun h => ?_) (fun h => ?_) | refine r_strn hG rfl rfl rfl rfl (fun h => ?_) (fun h => ?_)) | refine r_beq hG rfl rfl rfl rfl rfl ?_ | refine r_bin' hG rfl rfl rfl ?_)
      | (show AOp _ _ ⟨_, .pick _ _ _, _, _, _, _⟩ _ _ _; refine r_pick hG rfl rfl rfl ?_)
      | (show AOp _ _ ⟨_, .buildSlice _ _ _, _, _, _, _⟩ _ _ _; first | refine r_mk (sz := 1) hG rfl rfl rfl rfl rfl rfl rfl ?_ | refine r_mk (sz := 2) hG rfl rfl rfl rfl rfl rfl rfl ?_)
      | (show AOp _ _ ⟨_, .call ⟨.builtin .append, _, _⟩, _, _, _, _⟩ _ _ _; first | refine r_app0m (sz := 1) (xs := []) hG rfl rfl rfl rfl rfl rfl rfl ⟨_, rfl⟩ rfl rfl rfl rfl rfl rfl rfl (by first | omega | (simp; omega)) (fun k => ?_) | refine r_appm 0 hG rfl rfl rfl rfl rfl rfl rfl ⟨_, rfl⟩ rfl rfl rfl rfl rfl (by first | omega | (simp only [List.length_append, List.length_cons, List.length_nil]; omega)) (fun k => ?_) | fail)
      | refine r_q hG rfl rfl rfl ?_))
    | (show AL _ _ _ _ _ _ _ _; first | refine al_s rfl rfl rfl ?_ | (refine al_nil ?_; first | show AW _ _ _ _ _ _ | show ∃ x', _ < _ ∧ _)) | (show AW _ _ (.seq _ _) _ _ _; refine aw_seq' ?_; intro Q1) | (show AW _ _ (.region _ _ false) _ _ _; refine aw_regL' ?_; intro O1) | (show AW _ _ (.cond _ _ _) _ _ _; first | refine aw_if_t rfl ?_ | refine aw_if_f rfl ?_) | (show AW _ _ (.skip) _ _ _; refine aw_skip ?_; first | show AW _ _ _ _ _ _ | show ∃ x', _ < _ ∧ _) | (show AW _ _ (.block _ _) _ _ _; refine aw_block' ?_; intro Q1) | (show AW _ _ (.exit _) _ _ _; refine aw_exit ?_; first | show AW _ _ _ _ _ _ | show ∃ x', _ < _ ∧ _) | (show AW _ _ (.ret) _ _ _; refine aw_ret ?_; try dsimp only [thenA, inBlockA, jumpA, noGotoA]) | fail)
      refine al_cons rfl (r_app0m (sz := 1) (f := wT) (xs := [1]) (ys := l) hG rfl rfl rfl rfl rfl rfl rfl ⟨_, rfl⟩ rfl rfl rfl rfl rfl rfl rfl (by simp; omega) (fun k2 => ?_))
      repeat' (first
    | ((show AL _ _ _ _ _ _ _ _; refine al_cons rfl ?_); (first
      | (show AOp _ _ ⟨_, .move _, _, _, _, _⟩ _ _ _; refine r_move hG rfl rfl ?_)
      | (show AOp _ _ ⟨_, .assign _, _, _, _, _⟩ _ _ _; refine r_asg hG rfl rfl ?_)
      | (show AOp _ _ ⟨_, .call ⟨.builtin .len, _, _⟩, _, _, _, _⟩ _ _ _; first | refine r_lenm hG rfl rfl rfl rfl ?_ | refine r_len hG rfl rfl rfl rfl rfl ?_)
      | (show AOp _ _ ⟨_, .binOp .add _ _ _ _, _, _, _, _⟩ _ _ _; first | refine r_ari64 hG rfl rfl rfl rfl rfl (by omega) ?_ | refine r_aru64 hG rfl rfl rfl rfl rfl (by omega) ?_ | refine r_aru8 hG rfl rfl rfl rfl rfl (by omega) ?_ | refine r_aru16 hG rfl rfl rfl rfl rfl (by omega) ?_)
      | (show AOp _ _ ⟨_, .binOp .rem _ _ _ _, _, _, _, _⟩ _ _ _; first | refine r_rem hG rfl rfl rfl rfl (by omega) ?_ | refine r_trem hG rfl rfl rfl rfl (by omega) ?_)
      | (show AOp _ _ ⟨_, .binOp _ _ _ _ _, _, _, _, _⟩ _ _ _; first | refine r_cmpT hG rfl rfl rfl rfl rfl (by omega) ?_ | refine r_cmpF hG rfl rfl rfl rfl rfl (by omega) ?_ | refine r_strT hG rfl rfl rfl rfl (by first | rfl | assumption) ?_ | refine r_strnF hG rfl rfl rfl rfl (by first | rfl | assumption) ?_ | refine r_strF hG rfl rfl rfl rfl (by assumption) ?_ | refine r_strnT hG rfl rfl rfl rfl (by assumption) ?_ | (refine r_cmp hG rfl rfl rfl rfl rfl (fun h => ?_) (fun h => ?_)) | (first | refine r_str hG rfl rfl rfl rfl (fun h => ?_) (fun h => ?_) | refine r_strn hG rfl rfl rfl rfl (fun h => ?_) (fun h => ?_)) | refine r_beq hG rfl rfl rfl rfl rfl ?_ | refine r_bin' hG rfl rfl rfl ?_)
      | (show AOp _ _ ⟨_, .pick _ _ _, _, _, _, _⟩ _ _ _; refine r_pick hG rfl rfl rfl ?_)
      | (show AOp _ _ ⟨_, .buildSlice _ _ _, _, _, _, _⟩ _ _ _; first | refine r_mk (sz := 1) hG rfl rfl rfl rfl rfl rfl rfl ?_ | refine r_mk (sz := 2) hG rfl rfl rfl rfl rfl rfl rfl ?_)
      | (show AOp _ _ ⟨_, .call ⟨.builtin .append, _, _⟩, _, _, _, _⟩ _ _ _; first | refine r_app0m (sz := 1) (xs := []) hG rfl rfl rfl rfl rfl rfl rfl ⟨_, rfl⟩ rfl rfl rfl rfl rfl rfl rfl (by first | omega | (simp; omega)) (fun k => ?_) | refine r_appm 0 hG rfl rfl rfl rfl rfl rfl rfl ⟨_, rfl⟩ rfl rfl rfl rfl rfl (by first | omega | (simp only [List.length_append, List.length_cons, List.length_nil]; omega)) (fun k => ?_) | fail)
      | refine r_q hG rfl rfl rfl ?_))
    | (show AL _ _ _ _ _ _ _ _; first | refine al_s rfl rfl rfl ?_ | (refine al_nil ?_; first | show AW _ _ _ _ _ _ | show ∃ x', _ < _ ∧ _)) | (show AW _ _ (.seq _ _) _ _ _; refine aw_seq' ?_; intro Q1) | (show AW _ _ (.region _ _ false) _ _ _; refine aw_regL' ?_; intro O1) | (show AW _ _ (.cond _ _ _) _ _ _; first | refine aw_if_t rfl ?_ | refine aw_if_f rfl ?_) | (show AW _ _ (.skip) _ _ _; refine aw_skip ?_; first | show AW _ _ _ _ _ _ | show ∃ x', _ < _ ∧ _) | (show AW _ _ (.block _ _) _ _ _; refine aw_block' ?_; intro Q1) | (show AW _ _ (.exit _) _ _ _; refine aw_exit ?_; first | show AW _ _ _ _ _ _ | show ∃ x', _ < _ ∧ _) | (show AW _ _ (.ret) _ _ _; refine aw_ret ?_; try dsimp only [thenA, inBlockA, jumpA, noGotoA]) | fail)
      exact ret_pure (res_tmp rfl res_nil) (by rw [hr']; exact Wk.own _ _ _) rfl
    · rw [if_neg hq] at hr'
      repeat' (first
    | ((show AL _ _ _ _ _ _ _ _; refine al_cons rfl ?_); (first
      | (show AOp _ _ ⟨_, .move _, _, _, _, _⟩ _ _ _; refine r_move hG rfl rfl ?_)
      | (show AOp _ _ ⟨_, .assign _, _, _, _, _⟩ _ _ _; refine r_asg hG rfl rfl ?_)
      | (show AOp _ _ ⟨_, .call ⟨.builtin .len, _, _⟩, _, _, _, _⟩ _ _ _; first | refine r_lenm hG rfl rfl rfl rfl ?_ | refine r_len hG rfl rfl rfl rfl rfl ?_)
      | (show AOp _ _ ⟨_, .binOp .add _ _ _ _, _, _, _, _⟩ _ _ _; first | refine r_ari64 hG rfl rfl rfl rfl rfl (by omega) ?_ | refine r_aru64 hG rfl rfl rfl rfl rfl (by omega) ?_ | refine r_aru8 hG rfl rfl rfl rfl rfl (by omega) ?_ | refine r_aru16 hG rfl rfl rfl rfl rfl (by omega) ?_)
      | (show AOp _ _ ⟨_, .binOp .rem _ _ _ _, _, _, _, _⟩ _ _ _; first | refine r_rem hG rfl rfl rfl rfl (by omega) ?_ | refine r_trem hG rfl rfl rfl rfl (by omega) ?_)
      | (show AOp _ _ ⟨_, .binOp _ _ _ _ _, _, _, _, _⟩ _ _ _; first | refine r_cmpT hG rfl rfl rfl rfl rfl (by omega) ?_ | refine r_cmpF hG rfl rfl rfl rfl rfl (by omega) ?_ | refine r_strT hG rfl rfl rfl rfl (by first | rfl | assumption) ?_ | refine r_strnF hG rfl rfl rfl rfl (by first | rfl | assumption) ?_ | refine r_strF hG rfl rfl rfl rfl (by assumption) ?_ | refine r_strnT hG rfl rfl rfl rfl (by assumption) ?_ | (refine r_cmp hG rfl rfl rfl rfl rfl (fun h => ?_) (fun h => ?_)) | (first | refine r_str hG rfl rfl rfl rfl (fun h => ?_) (fun h => ?_) | refine r_strn hG rfl rfl rfl rfl (fun h => ?_) (fun h => ?_)) | refine r_beq hG rfl rfl rfl rfl rfl ?_ | refine r_bin' hG rfl rfl rfl ?_)
      | (show AOp _ _ ⟨_, .pick _ _ _, _, _, _, _⟩ _ _ _; refine r_pick hG rfl rfl rfl ?_)
      | (show AOp _ _ ⟨_, .buildSlice _ _ _, _, _, _, _⟩ _ _ _; first | refine r_mk (sz := 1) hG rfl rfl rfl rfl rfl rfl rfl ?_ | refine r_mk (sz := 2) hG rfl rfl rfl rfl rfl rfl rfl ?_)
      | (show AOp _ _ ⟨_, .call ⟨.builtin .append, _, _⟩, _, _, _, _⟩ _ _ _; first | refine r_app0m (sz := 1) (xs := []) hG rfl rfl rfl rfl rfl rfl rfl ⟨_, rfl⟩ rfl rfl rfl rfl rfl rfl rfl (by first | omega | (simp; omega)) (fun k => ?_) | refine r_appm 0 hG rfl rfl rfl rfl rfl rfl rfl ⟨_, rfl⟩ rfl rfl rfl rfl rfl (by first | omega | (simp only [List.length_append, List.length_cons, List.length_nil]; omega)) (fun k => ?_) | fail)
      | refine r_q hG rfl rfl rfl ?_))
    | (show AL _ _ _ _ _ _ _ _; first | refine al_s rfl rfl rfl ?_ | (refine al_nil ?_; first | show AW _ _ _ _ _ _ | show ∃ x', _ < _ ∧ _)) | (show AW _ _ (.seq _ _) _ _ _; refine aw_seq' ?_; intro Q1) | (show AW _ _ (.region _ _ false) _ _ _; refine aw_regL' ?_; intro O1) | (show AW _ _ (.cond _ _ _) _ _ _; first | refine aw_if_t rfl ?_ | refine aw_if_f rfl ?_) | (show AW _ _ (.skip) _ _ _; refine aw_skip ?_; first | show AW _ _ _ _ _ _ | show ∃ x', _ < _ ∧ _) | (show AW _ _ (.block _ _) _ _ _; refine aw_block' ?_; intro Q1) | (show AW _ _ (.exit _) _ _ _; refine aw_exit ?_; first | show AW _ _ _ _ _ _ | show ∃ x', _ < _ ∧ _) | (show AW _ _ (.ret) _ _ _; refine aw_ret ?_; try dsimp only [thenA, inBlockA, jumpA, noGotoA]) | fail)
      all_goals exact ret_pure (res_tmp rfl res_nil) (by rw [hr']; exact .refl _) rfl
theorem ref_May14 {id : Nat} (h : id < 18446744073709551616) : Ts.Pure Try.prog 62 [.int .u64 id] (.bool (nameB id)) := by
  intro off
  refine acalls_mk (N := 7) (rs := [.tmp 2]) hG Try.func62 rfl rfl rfl rfl rfl ?_
  have hc := ref_Path h
  rw [← path_name]
  unfold pathT at hc
  cases hp : pathR 20 id [] with
  | none =>
    rw [hp] at hc
    dsimp only at hc
    repeat' (first
    | ((show AL _ _ _ _ _ _ _ _; refine al_cons rfl ?_); (first
      | (show AOp _ _ ⟨_, .move _, _, _, _, _⟩ _ _ _; refine r_move hG rfl rfl ?_)
      | (show AOp _ _ ⟨_, .assign _, _, _, _, _⟩ _ _ _; refine r_asg hG rfl rfl ?_)
      | (show AOp _ _ ⟨_, .call ⟨.builtin .len, _, _⟩, _, _, _, _⟩ _ _ _; first | refine r_lenm hG rfl rfl rfl rfl ?_ | refine r_len hG rfl rfl rfl rfl rfl ?_)
      | (show AOp _ _ ⟨_, .binOp _ _ _ _ _, _, _, _, _⟩ _ _ _; first | refine r_cmpT hG rfl rfl rfl rfl rfl (by omega) ?_ | refine r_cmpF hG rfl rfl rfl rfl rfl (by omega) ?_ | refine r_strT hG rfl rfl rfl rfl (by first | rfl | assumption) ?_ | refine r_strnF hG rfl rfl rfl rfl (by first | rfl | assumption) ?_ | refine r_strF hG rfl rfl rfl rfl (by assumption) ?_ | refine r_strnT hG rfl rfl rfl rfl (by assumption) ?_ | (refine r_cmp hG rfl rfl rfl rfl rfl (fun h => ?_) (fun h => ?_)) | (first | refine r_str hG rfl rfl rfl rfl (fun h => ?_) (fun h => ?_) | refine r_strn hG rfl rfl rfl rfl (fun h => ?_) (fun h => ?_)) | refine r_beq hG rfl rfl rfl rfl rfl ?_ | refine r_bin' hG rfl rfl rfl ?_)
      | (show AOp _ _ ⟨_, .call ⟨.value _, _, _⟩, _, _, _, _⟩ _ _ _; first | refine r_pure rfl rfl rfl rfl rfl (by apply hc <;> (first | assumption | omega | exact bytesT_map _ _ | exact bytesT_s _ | exact catsT_map _ _ | exact catsT_c _ | rfl | (simp; omega))) ?_ | fail)
      | refine r_q hG rfl rfl rfl ?_))
    | (show AL _ _ _ _ _ _ _ _; first | refine al_s rfl rfl rfl ?_ | (refine al_nil ?_; first | show AW _ _ _ _ _ _ | show ∃ x', _ < _ ∧ _)) | (show AW _ _ (.seq _ _) _ _ _; refine aw_seq' ?_; intro Q1) | (show AW _ _ (.region _ _ false) _ _ _; refine aw_regL' ?_; intro O1) | (show AW _ _ (.ret) _ _ _; refine aw_ret ?_; try dsimp only [thenA, inBlockA, jumpA, noGotoA]) | fail)
    exact ret_pure (res_tmp rfl res_nil) (.refl _) rfl
  | some l =>
    rw [hp] at hc
    dsimp only at hc
    have hl : 0 < l.length := by
      have hq : ∀ f id m l, pathR f id m = some l → 0 < l.length := by
        intro f
        induction f with
        | zero => intro id m l h; rw [pathR] at h; split at h <;> simp at h; subst h; simp
        | succ f ih =>
          intro id m l h
          rw [pathR] at h
          split at h
          · split at h
            · simp at h
            · exact ih _ _ _ h
          · split at h <;> simp at h; subst h; simp
      exact hq _ _ _ _ hp
    repeat' (first
    | ((show AL _ _ _ _ _ _ _ _; refine al_cons rfl ?_); (first
      | (show AOp _ _ ⟨_, .move _, _, _, _, _⟩ _ _ _; refine r_move hG rfl rfl ?_)
      | (show AOp _ _ ⟨_, .assign _, _, _, _, _⟩ _ _ _; refine r_asg hG rfl rfl ?_)
      | (show AOp _ _ ⟨_, .call ⟨.builtin .len, _, _⟩, _, _, _, _⟩ _ _ _; first | refine r_lenm hG rfl rfl rfl rfl ?_ | refine r_len hG rfl rfl rfl rfl rfl ?_)
      | (show AOp _ _ ⟨_, .binOp _ _ _ _ _, _, _, _, _⟩ _ _ _; first | refine r_cmpT hG rfl rfl rfl rfl rfl (by omega) ?_ | refine r_cmpF hG rfl rfl rfl rfl rfl (by omega) ?_ | refine r_strT hG rfl rfl rfl rfl (by first | rfl | assumption) ?_ | refine r_strnF hG rfl rfl rfl rfl (by first | rfl | assumption) ?_ | refine r_strF hG rfl rfl rfl rfl (by assumption) ?_ | refine r_strnT hG rfl rfl rfl rfl (by assumption) ?_ | (refine r_cmp hG rfl rfl rfl rfl rfl (fun h => ?_) (fun h => ?_)) | (first | refine r_str hG rfl rfl rfl rfl (fun h => ?_) (fun h => ?_) | refine r_strn hG rfl rfl rfl rfl (fun h => ?_) (fun h => ?_)) | refine r_beq hG rfl rfl rfl rfl rfl ?_ | refine r_bin' hG rfl rfl rfl ?_)
      | (show AOp _ _ ⟨_, .call ⟨.value _, _, _⟩, _, _, _, _⟩ _ _ _; first | refine r_pure rfl rfl rfl rfl rfl (by apply hc <;> (first | assumption | omega | exact bytesT_map _ _ | exact bytesT_s _ | exact catsT_map _ _ | exact catsT_c _ | rfl | (simp; omega))) ?_ | fail)
      | refine r_q hG rfl rfl rfl ?_))
    | (show AL _ _ _ _ _ _ _ _; first | refine al_s rfl rfl rfl ?_ | (refine al_nil ?_; first | show AW _ _ _ _ _ _ | show ∃ x', _ < _ ∧ _)) | (show AW _ _ (.seq _ _) _ _ _; refine aw_seq' ?_; intro Q1) | (show AW _ _ (.region _ _ false) _ _ _; refine aw_regL' ?_; intro O1) | (show AW _ _ (.ret) _ _ _; refine aw_ret ?_; try dsimp only [thenA, inBlockA, jumpA, noGotoA]) | fail)
    exact ret_pure (res_tmp rfl res_nil) (.refl _) rfl
end Go.Proofs.Ytholeicgmkjadaa
namespace Go.Proofs.Ytholeicgmkjadaa
open Go.Ts
set_option linter.unusedSimpArgs false
attribute [local irreducible] Go.Ts.AW Go.Ts.AOps Go.Ts.AL Go.Ts.AOp Go.Ts.ACalls Go.Ts.DL Go.Ts.DQ Go.Ts.EL
theorem take_snoc {α : Type} [Inhabited α] (l : List α) (i : Nat) (h : i < l.length) : l.take (i + 1) = l.take i ++ [l.getD i default] := by
  rw [List.take_add_one, List.getElem?_eq_getElem h, List.getD_eq_getElem?_getD, List.getElem?_eq_getElem h]; rfl
end Go.Proofs.Ytholeicgmkjadaa
namespace Go.Proofs.Ytholeicgmkjadaa
open Go.Ts
set_option linter.unusedSimpArgs false
set_option linter.unusedVariables false
def mayL (l : List (List UInt8)) : Bool := decide (l.length ≤ 4) && l.all fun b => decide (b.length ≤ 16)
theorem mayL_iff {l : List (List UInt8)} : mayL l = true ↔ l.length ≤ 4 ∧ ∀ b ∈ l, b.length ≤ 16 := by simp [mayL]
def putR (b : List UInt8) (l : List (List UInt8)) : List UInt8 := l.foldl putBs (b ++ putI l.length 1)
def takeLs (b : List UInt8) : Nat → List (List UInt8) → Nat → List (List UInt8) × Nat × Int
  | 0, acc, at' => (acc, at', 0)
  | n + 1, acc, at' => if (takeBE (b.drop at')).2.2 = 0 then takeLs b n (acc ++ [(takeBE (b.drop at')).1]) (at' + (takeBE (b.drop at')).2.1) else ([], 0, 3)
def takeR (b : List UInt8) : List (List UInt8) × Nat × Int :=
  if b.length < 1 then ([], 0, 3)
  else if (takeLs b (beV (b.take 1)) [] 1).2.2 = 0 then (if mayL (takeLs b (beV (b.take 1)) [] 1).1 then takeLs b (beV (b.take 1)) [] 1 else ([], 0, 2)) else ([], 0, 3)
theorem be2 (n : Nat) (h : n < 65536) : putI n 2 = [UInt8.ofNat (n / 256), UInt8.ofNat n] := by
  unfold putI
  rw [if_pos (by omega)]
  simp [be]
/-- The letters alone. -/
def lets (l : List (List UInt8)) : List UInt8 := l.flatMap fun s => putI s.length 2 ++ s
theorem fold_put (l : List (List UInt8)) : ∀ b, l.foldl putBs b = b ++ lets l := by
  induction l with
  | nil => intro b; simp [lets]
  | cons s l ih => intro b; rw [List.foldl_cons, ih]; simp [lets, putBs]
theorem lets_cons (s : List UInt8) (l : List (List UInt8)) : lets (s :: l) = putI s.length 2 ++ s ++ lets l := by simp [lets]
theorem lets_len (l : List (List UInt8)) (h : ∀ b ∈ l, b.length ≤ 16) : (lets l).length ≤ 18 * l.length := by
  induction l with
  | nil => simp [lets]
  | cons s l ih =>
    have h1 := h s List.mem_cons_self
    have h2 := ih fun b hb => h b (List.mem_cons_of_mem _ hb)
    rw [lets_cons, be2 _ (by omega)]
    simp only [List.length_append, List.length_cons, List.length_nil]
    omega
end Go.Proofs.Ytholeicgmkjadaa
namespace Go.Proofs.Ytholeicgmkjadaa
open Go.Ts
attribute [local irreducible] Go.Ts.AW Go.Ts.AOps Go.Ts.AL Go.Ts.AOp Go.Ts.ACalls Go.Ts.DL Go.Ts.DQ Go.Ts.EL
def placeN (p n : Int) : Int := if n < 1 then 0 else if p.tmod n < 0 then p.tmod n + n else p.tmod n
end Go.Proofs.Ytholeicgmkjadaa
namespace Go.Proofs.Ytholeicgmkjadaa
open Go.Ts
set_option linter.unusedSimpArgs false
set_option linter.unusedVariables false
attribute [local irreducible] Go.Ts.AW Go.Ts.AOps Go.Ts.AL Go.Ts.AOp Go.Ts.ACalls Go.Ts.DL Go.Ts.DQ Go.Ts.EL
def longB (b : List UInt8) : Bool := decide (16 < b.length)
theorem r_May1 {x : T} {b : List UInt8} (hx : bytesT x = some b) (hl : b.length ≤ bigLen) : Ts.Pure Try.prog 83 [x] (.bool (longB b)) := by
  refine Pure.weak (us := [sT b]) ?_ (wk1 (bytesT_wk hx))
  intro off
  refine acalls_mk (N := 6) (rs := [.tmp 2]) hG Try.func83 rfl rfl rfl rfl rfl ?_
  unfold bigLen at hl
  by_cases h : 16 < b.length
  · repeat' (first
    | ((show AL _ _ _ _ _ _ _ _; refine al_cons rfl ?_); (first
      | (show AOp _ _ ⟨_, .move _, _, _, _, _⟩ _ _ _; refine r_move hG rfl rfl ?_)
      | (show AOp _ _ ⟨_, .assign _, _, _, _, _⟩ _ _ _; refine r_asg hG rfl rfl ?_)
      | (show AOp _ _ ⟨_, .call ⟨.builtin .len, _, _⟩, _, _, _, _⟩ _ _ _; first | refine r_lenm hG rfl rfl rfl rfl ?_ | refine r_len hG rfl rfl rfl rfl rfl ?_)
      | (show AOp _ _ ⟨_, .binOp _ _ _ _ _, _, _, _, _⟩ _ _ _; first | refine r_cmpT hG rfl rfl rfl rfl rfl (by omega) ?_ | refine r_cmpF hG rfl rfl rfl rfl rfl (by omega) ?_ | refine r_strT hG rfl rfl rfl rfl (by first | rfl | assumption) ?_ | refine r_strnF hG rfl rfl rfl rfl (by first | rfl | assumption) ?_ | refine r_strF hG rfl rfl rfl rfl (by assumption) ?_ | refine r_strnT hG rfl rfl rfl rfl (by assumption) ?_ | (refine r_cmp hG rfl rfl rfl rfl rfl (fun h => ?_) (fun h => ?_)) | (first | refine r_str hG rfl rfl rfl rfl (fun h => ?_) (fun h => ?_) | refine r_strn hG rfl rfl rfl rfl (fun h => ?_) (fun h => ?_)) | refine r_beq hG rfl rfl rfl rfl rfl ?_ | refine r_bin' hG rfl rfl rfl ?_)
      | refine r_q hG rfl rfl rfl ?_))
    | (show AL _ _ _ _ _ _ _ _; first | refine al_s rfl rfl rfl ?_ | (refine al_nil ?_; first | show AW _ _ _ _ _ _ | show ∃ x', _ < _ ∧ _)) | (show AW _ _ (.seq _ _) _ _ _; refine aw_seq' ?_; intro Q1) | (show AW _ _ (.region _ _ false) _ _ _; refine aw_regL' ?_; intro O1) | (show AW _ _ (.ret) _ _ _; refine aw_ret ?_; try dsimp only [thenA, inBlockA, jumpA, noGotoA]) | fail)
    exact ret_pure (res_tmp rfl res_nil) (.eq (by simp [longB, h]; rfl)) rfl
  · repeat' (first
    | ((show AL _ _ _ _ _ _ _ _; refine al_cons rfl ?_); (first
      | (show AOp _ _ ⟨_, .move _, _, _, _, _⟩ _ _ _; refine r_move hG rfl rfl ?_)
      | (show AOp _ _ ⟨_, .assign _, _, _, _, _⟩ _ _ _; refine r_asg hG rfl rfl ?_)
      | (show AOp _ _ ⟨_, .call ⟨.builtin .len, _, _⟩, _, _, _, _⟩ _ _ _; first | refine r_lenm hG rfl rfl rfl rfl ?_ | refine r_len hG rfl rfl rfl rfl rfl ?_)
      | (show AOp _ _ ⟨_, .binOp _ _ _ _ _, _, _, _, _⟩ _ _ _; first | refine r_cmpT hG rfl rfl rfl rfl rfl (by omega) ?_ | refine r_cmpF hG rfl rfl rfl rfl rfl (by omega) ?_ | refine r_strT hG rfl rfl rfl rfl (by first | rfl | assumption) ?_ | refine r_strnF hG rfl rfl rfl rfl (by first | rfl | assumption) ?_ | refine r_strF hG rfl rfl rfl rfl (by assumption) ?_ | refine r_strnT hG rfl rfl rfl rfl (by assumption) ?_ | (refine r_cmp hG rfl rfl rfl rfl rfl (fun h => ?_) (fun h => ?_)) | (first | refine r_str hG rfl rfl rfl rfl (fun h => ?_) (fun h => ?_) | refine r_strn hG rfl rfl rfl rfl (fun h => ?_) (fun h => ?_)) | refine r_beq hG rfl rfl rfl rfl rfl ?_ | refine r_bin' hG rfl rfl rfl ?_)
      | refine r_q hG rfl rfl rfl ?_))
    | (show AL _ _ _ _ _ _ _ _; first | refine al_s rfl rfl rfl ?_ | (refine al_nil ?_; first | show AW _ _ _ _ _ _ | show ∃ x', _ < _ ∧ _)) | (show AW _ _ (.seq _ _) _ _ _; refine aw_seq' ?_; intro Q1) | (show AW _ _ (.region _ _ false) _ _ _; refine aw_regL' ?_; intro O1) | (show AW _ _ (.ret) _ _ _; refine aw_ret ?_; try dsimp only [thenA, inBlockA, jumpA, noGotoA]) | fail)
    exact ret_pure (res_tmp rfl res_nil) (.eq (by simp [longB, h]; rfl)) rfl
def idxL (l : List (List UInt8)) : Int := if l.findIdx longB < l.length then l.findIdx longB else -1
theorem idxL_at {l : List (List UInt8)} {i : Nat} (hi : i < l.length) (hp : longB (l.getD i default) = true) (hn : ∀ j < i, longB (l.getD j default) = false) : idxL l = i := by
  have e : l.findIdx longB = i := by
    rw [List.findIdx_eq hi]
    refine ⟨by simpa [List.getD_eq_getElem?_getD, List.getElem?_eq_getElem hi] using hp, fun j hj => ?_⟩
    have := hn j hj
    simpa [List.getD_eq_getElem?_getD, List.getElem?_eq_getElem (show j < l.length by omega)] using this
  rw [idxL, e, if_pos hi]
theorem idxL_no {l : List (List UInt8)} (hn : ∀ j < l.length, longB (l.getD j default) = false) : idxL l = -1 := by
  have e : l.findIdx longB = l.length := by
    rw [List.findIdx_eq_length]
    intro b hb
    obtain ⟨j, hj, rfl⟩ := List.mem_iff_getElem.1 hb
    have := hn j hj
    simpa [List.getD_eq_getElem?_getD, List.getElem?_eq_getElem hj] using this
  rw [idxL, e, if_neg (by omega)]
structure IdX (l : List (List UInt8)) where
  i : Nat
  hi : i ≤ l.length
  hn : ∀ j < i, longB (l.getD j default) = false
theorem getD_mem {α : Type} [Inhabited α] {l : List α} {i : Nat} (h : i < l.length) : l.getD i default ∈ l := by
  rw [List.getD_eq_getElem?_getD, List.getElem?_eq_getElem h]; exact List.getElem_mem h
theorem r_Index {x : T} {l : List (List UInt8)} (hx : lettersT x = some l) (hl : l.length ≤ bigLen) (hb : ∀ b ∈ l, b.length ≤ bigLen) : Ts.Pure Try.prog 90 [x, .fn (.func 83) []] (.int .i64 (idxL l)) := by
  refine Pure.weak (us := [lT l, .fn (.func 83) []]) ?_ (wk2 (lettersT_wk hx) (.refl _))
  intro off
  refine acalls_mk (N := 19) (rs := [.tmp 4]) hG Try.func90 rfl rfl rfl rfl rfl ?_
  unfold bigLen at hl
  repeat' (first
    | ((show AL _ _ _ _ _ _ _ _; refine al_cons rfl ?_); (first
      | (show AOp _ _ ⟨_, .move _, _, _, _, _⟩ _ _ _; refine r_move hG rfl rfl ?_)
      | (show AOp _ _ ⟨_, .assign _, _, _, _, _⟩ _ _ _; refine r_asg hG rfl rfl ?_)
      | (show AOp _ _ ⟨_, .call ⟨.builtin .len, _, _⟩, _, _, _, _⟩ _ _ _; first | refine r_lenm hG rfl rfl rfl rfl ?_ | refine r_len hG rfl rfl rfl rfl rfl ?_)
      | (show AOp _ _ ⟨_, .binOp .add _ _ _ _, _, _, _, _⟩ _ _ _; first | refine r_ari64 hG rfl rfl rfl rfl rfl (by omega) ?_ | refine r_aru64 hG rfl rfl rfl rfl rfl (by omega) ?_ | refine r_aru8 hG rfl rfl rfl rfl rfl (by omega) ?_ | refine r_aru16 hG rfl rfl rfl rfl rfl (by omega) ?_)
      | (show AOp _ _ ⟨_, .binOp _ _ _ _ _, _, _, _, _⟩ _ _ _; first | refine r_cmpT hG rfl rfl rfl rfl rfl (by omega) ?_ | refine r_cmpF hG rfl rfl rfl rfl rfl (by omega) ?_ | refine r_strT hG rfl rfl rfl rfl (by first | rfl | assumption) ?_ | refine r_strnF hG rfl rfl rfl rfl (by first | rfl | assumption) ?_ | refine r_strF hG rfl rfl rfl rfl (by assumption) ?_ | refine r_strnT hG rfl rfl rfl rfl (by assumption) ?_ | (refine r_cmp hG rfl rfl rfl rfl rfl (fun h => ?_) (fun h => ?_)) | (first | refine r_str hG rfl rfl rfl rfl (fun h => ?_) (fun h => ?_) | refine r_strn hG rfl rfl rfl rfl (fun h => ?_) (fun h => ?_)) | refine r_beq hG rfl rfl rfl rfl rfl ?_ | refine r_bin' hG rfl rfl rfl ?_)
      | (show AOp _ _ ⟨_, .load _ _, _, _, _, _⟩ _ _ _; first | refine r_ldro hG rfl rfl rfl ?_ | refine r_ld 0 hG rfl rfl rfl rfl ?_ | refine r_ld 1 hG rfl rfl rfl rfl ?_ | refine r_ld 2 hG rfl rfl rfl rfl ?_ | refine r_ld 3 hG rfl rfl rfl rfl ?_)
      | (show AOp _ _ ⟨_, .indexAddr _ _ _, _, _, _, _⟩ _ _ _; first | refine r_idx0 hG rfl rfl rfl rfl rfl rfl rfl ?_ | refine r_idxn hG rfl rfl rfl rfl rfl rfl rfl (by omega) ?_ | refine r_idxm hG rfl rfl rfl rfl rfl rfl rfl (by omega) ?_ | refine r_idx hG rfl rfl ?_)
      | refine r_q hG rfl rfl rfl ?_))
    | (show AL _ _ _ _ _ _ _ _; first | refine al_s rfl rfl rfl ?_ | (refine al_nil ?_; first | show AW _ _ _ _ _ _ | show ∃ x', _ < _ ∧ _)) | (show AW _ _ (.seq _ _) _ _ _; refine aw_seq' ?_; intro Q1) | (show AW _ _ (.region _ _ false) _ _ _; refine aw_regL' ?_; intro O1) | (show AW _ _ (.cond _ _ _) _ _ _; first | refine aw_if_t rfl ?_ | refine aw_if_f rfl ?_) | (show AW _ _ (.skip) _ _ _; refine aw_skip ?_; first | show AW _ _ _ _ _ _ | show ∃ x', _ < _ ∧ _) | (show AW _ _ (.block _ _) _ _ _; refine aw_block' ?_; intro Q1) | (show AW _ _ (.exit _) _ _ _; refine aw_exit ?_; first | show AW _ _ _ _ _ _ | show ∃ x', _ < _ ∧ _) | (show AW _ _ (.ret) _ _ _; refine aw_ret ?_; try dsimp only [thenA, inBlockA, jumpA, noGotoA]) | fail)
  refine aw_loop (X := IdX l) (fun x => [(0, lT l), (1, .fn (.func 83) []), (7, .int .i64 l.length), (8, .int .i64 x.i)]) (fun x => ⟨[], [], off, none⟩) (fun x => l.length - x.i) ⟨0, Nat.zero_le _, fun j h => by omega⟩ ?_ (.refl _) ?_
  · exact .cons rfl (.cons rfl (.consW rfl (.int (by simp)) (.consW rfl (.int rfl) (.nil _))))
  rintro ⟨i, hi, hn⟩
  dsimp only
  by_cases hil : i < l.length
  · have hc := r_May1 (b := l.getD i default) (bytesT_s _) (hb _ (getD_mem hil))
    cases hlb : longB (l.getD i default) <;> rw [hlb] at hc
    · repeat' (first
    | ((show AL _ _ _ _ _ _ _ _; refine al_cons rfl ?_); (first
      | (show AOp _ _ ⟨_, .move _, _, _, _, _⟩ _ _ _; refine r_move hG rfl rfl ?_)
      | (show AOp _ _ ⟨_, .assign _, _, _, _, _⟩ _ _ _; refine r_asg hG rfl rfl ?_)
      | (show AOp _ _ ⟨_, .call ⟨.builtin .len, _, _⟩, _, _, _, _⟩ _ _ _; first | refine r_lenm hG rfl rfl rfl rfl ?_ | refine r_len hG rfl rfl rfl rfl rfl ?_)
      | (show AOp _ _ ⟨_, .binOp .add _ _ _ _, _, _, _, _⟩ _ _ _; first | refine r_ari64 hG rfl rfl rfl rfl rfl (by omega) ?_ | refine r_aru64 hG rfl rfl rfl rfl rfl (by omega) ?_ | refine r_aru8 hG rfl rfl rfl rfl rfl (by omega) ?_ | refine r_aru16 hG rfl rfl rfl rfl rfl (by omega) ?_)
      | (show AOp _ _ ⟨_, .binOp _ _ _ _ _, _, _, _, _⟩ _ _ _; first | refine r_cmpT hG rfl rfl rfl rfl rfl (by omega) ?_ | refine r_cmpF hG rfl rfl rfl rfl rfl (by omega) ?_ | refine r_strT hG rfl rfl rfl rfl (by first | rfl | assumption) ?_ | refine r_strnF hG rfl rfl rfl rfl (by first | rfl | assumption) ?_ | refine r_strF hG rfl rfl rfl rfl (by assumption) ?_ | refine r_strnT hG rfl rfl rfl rfl (by assumption) ?_ | (refine r_cmp hG rfl rfl rfl rfl rfl (fun h => ?_) (fun h => ?_)) | (first | refine r_str hG rfl rfl rfl rfl (fun h => ?_) (fun h => ?_) | refine r_strn hG rfl rfl rfl rfl (fun h => ?_) (fun h => ?_)) | refine r_beq hG rfl rfl rfl rfl rfl ?_ | refine r_bin' hG rfl rfl rfl ?_)
      | (show AOp _ _ ⟨_, .load _ _, _, _, _, _⟩ _ _ _; first | refine r_ldro hG rfl rfl rfl ?_ | refine r_ld 0 hG rfl rfl rfl rfl ?_ | refine r_ld 1 hG rfl rfl rfl rfl ?_ | refine r_ld 2 hG rfl rfl rfl rfl ?_ | refine r_ld 3 hG rfl rfl rfl rfl ?_)
      | (show AOp _ _ ⟨_, .indexAddr _ _ _, _, _, _, _⟩ _ _ _; first | refine r_idx0 hG rfl rfl rfl rfl rfl rfl rfl ?_ | refine r_idxn hG rfl rfl rfl rfl rfl rfl rfl (by omega) ?_ | refine r_idxm hG rfl rfl rfl rfl rfl rfl rfl (by omega) ?_ | refine r_idx hG rfl rfl ?_)
      | (show AOp _ _ ⟨_, .call ⟨.value _, _, _⟩, _, _, _, _⟩ _ _ _; first | refine r_pure rfl rfl rfl rfl rfl (by apply hc <;> (first | assumption | omega | exact bytesT_map _ _ | exact bytesT_s _ | exact catsT_map _ _ | exact catsT_c _ | rfl | (simp; omega))) ?_ | fail)
      | refine r_q hG rfl rfl rfl ?_))
    | (show AL _ _ _ _ _ _ _ _; first | refine al_s rfl rfl rfl ?_ | (refine al_nil ?_; first | show AW _ _ _ _ _ _ | show ∃ x', _ < _ ∧ _)) | (show AW _ _ (.seq _ _) _ _ _; refine aw_seq' ?_; intro Q1) | (show AW _ _ (.region _ _ false) _ _ _; refine aw_regL' ?_; intro O1) | (show AW _ _ (.cond _ _ _) _ _ _; first | refine aw_if_t rfl ?_ | refine aw_if_f rfl ?_) | (show AW _ _ (.skip) _ _ _; refine aw_skip ?_; first | show AW _ _ _ _ _ _ | show ∃ x', _ < _ ∧ _) | (show AW _ _ (.block _ _) _ _ _; refine aw_block' ?_; intro Q1) | (show AW _ _ (.exit _) _ _ _; refine aw_exit ?_; first | show AW _ _ _ _ _ _ | show ∃ x', _ < _ ∧ _) | (show AW _ _ (.ret) _ _ _; refine aw_ret ?_; try dsimp only [thenA, inBlockA, jumpA, noGotoA]) | fail)
      refine ⟨⟨i + 1, by omega, fun j hj => ?_⟩, by dsimp only; omega, ?_, .refl _⟩
      · rcases Nat.lt_succ_iff_lt_or_eq.1 hj with h | rfl
        · exact hn j h
        · exact hlb
      · exact .cons rfl (.cons rfl (.cons rfl (.consW rfl (.int (by simp)) (.nil _))))
    · repeat' (first
    | ((show AL _ _ _ _ _ _ _ _; refine al_cons rfl ?_); (first
      | (show AOp _ _ ⟨_, .move _, _, _, _, _⟩ _ _ _; refine r_move hG rfl rfl ?_)
      | (show AOp _ _ ⟨_, .assign _, _, _, _, _⟩ _ _ _; refine r_asg hG rfl rfl ?_)
      | (show AOp _ _ ⟨_, .call ⟨.builtin .len, _, _⟩, _, _, _, _⟩ _ _ _; first | refine r_lenm hG rfl rfl rfl rfl ?_ | refine r_len hG rfl rfl rfl rfl rfl ?_)
      | (show AOp _ _ ⟨_, .binOp .add _ _ _ _, _, _, _, _⟩ _ _ _; first | refine r_ari64 hG rfl rfl rfl rfl rfl (by omega) ?_ | refine r_aru64 hG rfl rfl rfl rfl rfl (by omega) ?_ | refine r_aru8 hG rfl rfl rfl rfl rfl (by omega) ?_ | refine r_aru16 hG rfl rfl rfl rfl rfl (by omega) ?_)
      | (show AOp _ _ ⟨_, .binOp _ _ _ _ _, _, _, _, _⟩ _ _ _; first | refine r_cmpT hG rfl rfl rfl rfl rfl (by omega) ?_ | refine r_cmpF hG rfl rfl rfl rfl rfl (by omega) ?_ | refine r_strT hG rfl rfl rfl rfl (by first | rfl | assumption) ?_ | refine r_strnF hG rfl rfl rfl rfl (by first | rfl | assumption) ?_ | refine r_strF hG rfl rfl rfl rfl (by assumption) ?_ | refine r_strnT hG rfl rfl rfl rfl (by assumption) ?_ | (refine r_cmp hG rfl rfl rfl rfl rfl (fun h => ?_) (fun h => ?_)) | (first | refine r_str hG rfl rfl rfl rfl (fun h => ?_) (fun h => ?_) | refine r_strn hG rfl rfl rfl rfl (fun h => ?_) (fun h => ?_)) | refine r_beq hG rfl rfl rfl rfl rfl ?_ | refine r_bin' hG rfl rfl rfl ?_)
      | (show AOp _ _ ⟨_, .load _ _, _, _, _, _⟩ _ _ _; first | refine r_ldro hG rfl rfl rfl ?_ | refine r_ld 0 hG rfl rfl rfl rfl ?_ | refine r_ld 1 hG rfl rfl rfl rfl ?_ | refine r_ld 2 hG rfl rfl rfl rfl ?_ | refine r_ld 3 hG rfl rfl rfl rfl ?_)
      | (show AOp _ _ ⟨_, .indexAddr _ _ _, _, _, _, _⟩ _ _ _; first | refine r_idx0 hG rfl rfl rfl rfl rfl rfl rfl ?_ | refine r_idxn hG rfl rfl rfl rfl rfl rfl rfl (by omega) ?_ | refine r_idxm hG rfl rfl rfl rfl rfl rfl rfl (by omega) ?_ | refine r_idx hG rfl rfl ?_)
      | (show AOp _ _ ⟨_, .call ⟨.value _, _, _⟩, _, _, _, _⟩ _ _ _; first | refine r_pure rfl rfl rfl rfl rfl (by apply hc <;> (first | assumption | omega | exact bytesT_map _ _ | exact bytesT_s _ | exact catsT_map _ _ | exact catsT_c _ | rfl | (simp; omega))) ?_ | fail)
      | refine r_q hG rfl rfl rfl ?_))
    | (show AL _ _ _ _ _ _ _ _; first | refine al_s rfl rfl rfl ?_ | (refine al_nil ?_; first | show AW _ _ _ _ _ _ | show ∃ x', _ < _ ∧ _)) | (show AW _ _ (.seq _ _) _ _ _; refine aw_seq' ?_; intro Q1) | (show AW _ _ (.region _ _ false) _ _ _; refine aw_regL' ?_; intro O1) | (show AW _ _ (.cond _ _ _) _ _ _; first | refine aw_if_t rfl ?_ | refine aw_if_f rfl ?_) | (show AW _ _ (.skip) _ _ _; refine aw_skip ?_; first | show AW _ _ _ _ _ _ | show ∃ x', _ < _ ∧ _) | (show AW _ _ (.block _ _) _ _ _; refine aw_block' ?_; intro Q1) | (show AW _ _ (.exit _) _ _ _; refine aw_exit ?_; first | show AW _ _ _ _ _ _ | show ∃ x', _ < _ ∧ _) | (show AW _ _ (.ret) _ _ _; refine aw_ret ?_; try dsimp only [thenA, inBlockA, jumpA, noGotoA]) | fail)
      exact ret_pure (res_tmp rfl res_nil) (.int (idxL_at hil hlb hn).symm) rfl
  · obtain rfl : i = l.length := by omega
    repeat' (first
    | ((show AL _ _ _ _ _ _ _ _; refine al_cons rfl ?_); (first
      | (show AOp _ _ ⟨_, .move _, _, _, _, _⟩ _ _ _; refine r_move hG rfl rfl ?_)
      | (show AOp _ _ ⟨_, .assign _, _, _, _, _⟩ _ _ _; refine r_asg hG rfl rfl ?_)
      | (show AOp _ _ ⟨_, .call ⟨.builtin .len, _, _⟩, _, _, _, _⟩ _ _ _; first | refine r_lenm hG rfl rfl rfl rfl ?_ | refine r_len hG rfl rfl rfl rfl rfl ?_)
      | (show AOp _ _ ⟨_, .binOp .add _ _ _ _, _, _, _, _⟩ _ _ _; first | refine r_ari64 hG rfl rfl rfl rfl rfl (by omega) ?_ | refine r_aru64 hG rfl rfl rfl rfl rfl (by omega) ?_ | refine r_aru8 hG rfl rfl rfl rfl rfl (by omega) ?_ | refine r_aru16 hG rfl rfl rfl rfl rfl (by omega) ?_)
      | (show AOp _ _ ⟨_, .binOp _ _ _ _ _, _, _, _, _⟩ _ _ _; first | refine r_cmpT hG rfl rfl rfl rfl rfl (by omega) ?_ | refine r_cmpF hG rfl rfl rfl rfl rfl (by omega) ?_ | refine r_strT hG rfl rfl rfl rfl (by first | rfl | assumption) ?_ | refine r_strnF hG rfl rfl rfl rfl (by first | rfl | assumption) ?_ | refine r_strF hG rfl rfl rfl rfl (by assumption) ?_ | refine r_strnT hG rfl rfl rfl rfl (by assumption) ?_ | (refine r_cmp hG rfl rfl rfl rfl rfl (fun h => ?_) (fun h => ?_)) | (first | refine r_str hG rfl rfl rfl rfl (fun h => ?_) (fun h => ?_) | refine r_strn hG rfl rfl rfl rfl (fun h => ?_) (fun h => ?_)) | refine r_beq hG rfl rfl rfl rfl rfl ?_ | refine r_bin' hG rfl rfl rfl ?_)
      | (show AOp _ _ ⟨_, .load _ _, _, _, _, _⟩ _ _ _; first | refine r_ldro hG rfl rfl rfl ?_ | refine r_ld 0 hG rfl rfl rfl rfl ?_ | refine r_ld 1 hG rfl rfl rfl rfl ?_ | refine r_ld 2 hG rfl rfl rfl rfl ?_ | refine r_ld 3 hG rfl rfl rfl rfl ?_)
      | (show AOp _ _ ⟨_, .indexAddr _ _ _, _, _, _, _⟩ _ _ _; first | refine r_idx0 hG rfl rfl rfl rfl rfl rfl rfl ?_ | refine r_idxn hG rfl rfl rfl rfl rfl rfl rfl (by omega) ?_ | refine r_idxm hG rfl rfl rfl rfl rfl rfl rfl (by omega) ?_ | refine r_idx hG rfl rfl ?_)
      | refine r_q hG rfl rfl rfl ?_))
    | (show AL _ _ _ _ _ _ _ _; first | refine al_s rfl rfl rfl ?_ | (refine al_nil ?_; first | show AW _ _ _ _ _ _ | show ∃ x', _ < _ ∧ _)) | (show AW _ _ (.seq _ _) _ _ _; refine aw_seq' ?_; intro Q1) | (show AW _ _ (.region _ _ false) _ _ _; refine aw_regL' ?_; intro O1) | (show AW _ _ (.cond _ _ _) _ _ _; first | refine aw_if_t rfl ?_ | refine aw_if_f rfl ?_) | (show AW _ _ (.skip) _ _ _; refine aw_skip ?_; first | show AW _ _ _ _ _ _ | show ∃ x', _ < _ ∧ _) | (show AW _ _ (.block _ _) _ _ _; refine aw_block' ?_; intro Q1) | (show AW _ _ (.exit _) _ _ _; refine aw_exit ?_; first | show AW _ _ _ _ _ _ | show ∃ x', _ < _ ∧ _) | (show AW _ _ (.ret) _ _ _; refine aw_ret ?_; try dsimp only [thenA, inBlockA, jumpA, noGotoA]) | fail)
    exact ret_pure (res_tmp rfl res_nil) (.int (idxL_no hn).symm) rfl
def anyL (l : List (List UInt8)) : Bool := l.any longB
theorem idxL_any (l : List (List UInt8)) : (0 ≤ idxL l ↔ anyL l = true) := by
  unfold idxL anyL
  rw [List.any_eq_true]
  constructor
  · intro h
    split at h
    · rename_i h1; exact ⟨_, List.getElem_mem h1, List.findIdx_getElem⟩
    · omega
  · rintro ⟨b, h1, h2⟩
    rw [if_pos (List.findIdx_lt_length_of_exists ⟨b, h1, h2⟩)]
    omega
theorem r_Contains {x : T} {l : List (List UInt8)} (hx : lettersT x = some l) (hl : l.length ≤ bigLen) (hb : ∀ b ∈ l, b.length ≤ bigLen) : Ts.Pure Try.prog 82 [x, .fn (.func 83) []] (.bool (anyL l)) := by
  refine Pure.weak (us := [lT l, .fn (.func 83) []]) ?_ (wk2 (lettersT_wk hx) (.refl _))
  intro off
  refine acalls_mk (N := 9) (rs := [.tmp 4]) hG Try.func82 rfl rfl rfl rfl rfl ?_
  have hc := r_Index (x := lT l) (lettersT_l l) hl hb
  have ha := idxL_any l
  by_cases h : 0 ≤ idxL l
  · repeat' (first
    | ((show AL _ _ _ _ _ _ _ _; refine al_cons rfl ?_); (first
      | (show AOp _ _ ⟨_, .move _, _, _, _, _⟩ _ _ _; refine r_move hG rfl rfl ?_)
      | (show AOp _ _ ⟨_, .assign _, _, _, _, _⟩ _ _ _; refine r_asg hG rfl rfl ?_)
      | (show AOp _ _ ⟨_, .binOp _ _ _ _ _, _, _, _, _⟩ _ _ _; first | refine r_cmpT hG rfl rfl rfl rfl rfl (by omega) ?_ | refine r_cmpF hG rfl rfl rfl rfl rfl (by omega) ?_ | refine r_strT hG rfl rfl rfl rfl (by first | rfl | assumption) ?_ | refine r_strnF hG rfl rfl rfl rfl (by first | rfl | assumption) ?_ | refine r_strF hG rfl rfl rfl rfl (by assumption) ?_ | refine r_strnT hG rfl rfl rfl rfl (by assumption) ?_ | (refine r_cmp hG rfl rfl rfl rfl rfl (fun h => ?_) (fun h => ?_)) | (first | refine r_str hG rfl rfl rfl rfl (fun h => ?_) (fun h => ?_) | refine r_strn hG rfl rfl rfl rfl (fun h => ?_) (fun h => ?_)) | refine r_beq hG rfl rfl rfl rfl rfl ?_ | refine r_bin' hG rfl rfl rfl ?_)
      | (show AOp _ _ ⟨_, .call ⟨.value _, _, _⟩, _, _, _, _⟩ _ _ _; first | refine r_pure rfl rfl rfl rfl rfl (by apply hc <;> (first | assumption | omega | exact bytesT_map _ _ | exact bytesT_s _ | exact catsT_map _ _ | exact catsT_c _ | rfl | (simp; omega))) ?_ | fail)
      | refine r_q hG rfl rfl rfl ?_))
    | (show AL _ _ _ _ _ _ _ _; first | refine al_s rfl rfl rfl ?_ | (refine al_nil ?_; first | show AW _ _ _ _ _ _ | show ∃ x', _ < _ ∧ _)) | (show AW _ _ (.seq _ _) _ _ _; refine aw_seq' ?_; intro Q1) | (show AW _ _ (.region _ _ false) _ _ _; refine aw_regL' ?_; intro O1) | (show AW _ _ (.ret) _ _ _; refine aw_ret ?_; try dsimp only [thenA, inBlockA, jumpA, noGotoA]) | fail)
    exact ret_pure (res_tmp rfl res_nil) (.eq (by rw [ha.1 h]; rfl)) rfl
  · repeat' (first
    | ((show AL _ _ _ _ _ _ _ _; refine al_cons rfl ?_); (first
      | (show AOp _ _ ⟨_, .move _, _, _, _, _⟩ _ _ _; refine r_move hG rfl rfl ?_)
      | (show AOp _ _ ⟨_, .assign _, _, _, _, _⟩ _ _ _; refine r_asg hG rfl rfl ?_)
      | (show AOp _ _ ⟨_, .binOp _ _ _ _ _, _, _, _, _⟩ _ _ _; first | refine r_cmpT hG rfl rfl rfl rfl rfl (by omega) ?_ | refine r_cmpF hG rfl rfl rfl rfl rfl (by omega) ?_ | refine r_strT hG rfl rfl rfl rfl (by first | rfl | assumption) ?_ | refine r_strnF hG rfl rfl rfl rfl (by first | rfl | assumption) ?_ | refine r_strF hG rfl rfl rfl rfl (by assumption) ?_ | refine r_strnT hG rfl rfl rfl rfl (by assumption) ?_ | (refine r_cmp hG rfl rfl rfl rfl rfl (fun h => ?_) (fun h => ?_)) | (first | refine r_str hG rfl rfl rfl rfl (fun h => ?_) (fun h => ?_) | refine r_strn hG rfl rfl rfl rfl (fun h => ?_) (fun h => ?_)) | refine r_beq hG rfl rfl rfl rfl rfl ?_ | refine r_bin' hG rfl rfl rfl ?_)
      | (show AOp _ _ ⟨_, .call ⟨.value _, _, _⟩, _, _, _, _⟩ _ _ _; first | refine r_pure rfl rfl rfl rfl rfl (by apply hc <;> (first | assumption | omega | exact bytesT_map _ _ | exact bytesT_s _ | exact catsT_map _ _ | exact catsT_c _ | rfl | (simp; omega))) ?_ | fail)
      | refine r_q hG rfl rfl rfl ?_))
    | (show AL _ _ _ _ _ _ _ _; first | refine al_s rfl rfl rfl ?_ | (refine al_nil ?_; first | show AW _ _ _ _ _ _ | show ∃ x', _ < _ ∧ _)) | (show AW _ _ (.seq _ _) _ _ _; refine aw_seq' ?_; intro Q1) | (show AW _ _ (.region _ _ false) _ _ _; refine aw_regL' ?_; intro O1) | (show AW _ _ (.ret) _ _ _; refine aw_ret ?_; try dsimp only [thenA, inBlockA, jumpA, noGotoA]) | fail)
    exact ret_pure (res_tmp rfl res_nil) (.eq (by rw [Bool.eq_false_iff.2 fun e => h (ha.2 e)]; rfl)) rfl
theorem mayL_any (l : List (List UInt8)) : mayL l = (decide (l.length ≤ 4) && !anyL l) := by
  unfold mayL anyL
  congr 1
  rw [List.not_any_eq_all_not]
  congr 1; funext b; unfold longB; rw [← decide_not]; congr 1; simp
theorem r_May {x : T} {l : List (List UInt8)} (hx : lettersT x = some l) (hl : l.length ≤ bigLen) (hb : ∀ b ∈ l, b.length ≤ bigLen) : Ts.Pure Try.prog 59 [x] (.bool (mayL l)) := by
  refine Pure.weak (us := [lT l]) ?_ (wk1 (lettersT_wk hx))
  intro off
  refine acalls_mk (N := 11) (rs := [.tmp 2]) hG Try.func59 rfl rfl rfl rfl rfl ?_
  have hc := r_Contains (x := lT l) (lettersT_l l) hl hb
  rw [mayL_any]
  by_cases h4 : l.length ≤ 4
  · rw [decide_eq_true h4, Bool.true_and]
    cases ha : anyL l <;> rw [ha] at hc
    · repeat' (first
    | ((show AL _ _ _ _ _ _ _ _; refine al_cons rfl ?_); (first
      | (show AOp _ _ ⟨_, .move _, _, _, _, _⟩ _ _ _; refine r_move hG rfl rfl ?_)
      | (show AOp _ _ ⟨_, .assign _, _, _, _, _⟩ _ _ _; refine r_asg hG rfl rfl ?_)
      | (show AOp _ _ ⟨_, .call ⟨.builtin .len, _, _⟩, _, _, _, _⟩ _ _ _; first | refine r_lenm hG rfl rfl rfl rfl ?_ | refine r_len hG rfl rfl rfl rfl rfl ?_)
      | (show AOp _ _ ⟨_, .binOp _ _ _ _ _, _, _, _, _⟩ _ _ _; first | refine r_cmpT hG rfl rfl rfl rfl rfl (by omega) ?_ | refine r_cmpF hG rfl rfl rfl rfl rfl (by omega) ?_ | refine r_strT hG rfl rfl rfl rfl (by first | rfl | assumption) ?_ | refine r_strnF hG rfl rfl rfl rfl (by first | rfl | assumption) ?_ | refine r_strF hG rfl rfl rfl rfl (by assumption) ?_ | refine r_strnT hG rfl rfl rfl rfl (by assumption) ?_ | (refine r_cmp hG rfl rfl rfl rfl rfl (fun h => ?_) (fun h => ?_)) | (first | refine r_str hG rfl rfl rfl rfl (fun h => ?_) (fun h => ?_) | refine r_strn hG rfl rfl rfl rfl (fun h => ?_) (fun h => ?_)) | refine r_beq hG rfl rfl rfl rfl rfl ?_ | refine r_bin' hG rfl rfl rfl ?_)
      | (show AOp _ _ ⟨_, .pick _ _ _, _, _, _, _⟩ _ _ _; refine r_pick hG rfl rfl rfl ?_)
      | (show AOp _ _ ⟨_, .unOp _ _ _, _, _, _, _⟩ _ _ _; refine r_not hG rfl rfl rfl ?_)
      | (show AOp _ _ ⟨_, .call ⟨.value _, _, _⟩, _, _, _, _⟩ _ _ _; first | refine r_pure rfl rfl rfl rfl rfl (by apply hc <;> (first | assumption | omega | exact bytesT_map _ _ | exact bytesT_s _ | exact catsT_map _ _ | exact catsT_c _ | rfl | (simp; omega))) ?_ | fail)
      | refine r_q hG rfl rfl rfl ?_))
    | (show AL _ _ _ _ _ _ _ _; first | refine al_s rfl rfl rfl ?_ | (refine al_nil ?_; first | show AW _ _ _ _ _ _ | show ∃ x', _ < _ ∧ _)) | (show AW _ _ (.seq _ _) _ _ _; refine aw_seq' ?_; intro Q1) | (show AW _ _ (.region _ _ false) _ _ _; refine aw_regL' ?_; intro O1) | (show AW _ _ (.ret) _ _ _; refine aw_ret ?_; try dsimp only [thenA, inBlockA, jumpA, noGotoA]) | fail)
      exact ret_pure (res_tmp rfl res_nil) (.refl _) rfl
    · repeat' (first
    | ((show AL _ _ _ _ _ _ _ _; refine al_cons rfl ?_); (first
      | (show AOp _ _ ⟨_, .move _, _, _, _, _⟩ _ _ _; refine r_move hG rfl rfl ?_)
      | (show AOp _ _ ⟨_, .assign _, _, _, _, _⟩ _ _ _; refine r_asg hG rfl rfl ?_)
      | (show AOp _ _ ⟨_, .call ⟨.builtin .len, _, _⟩, _, _, _, _⟩ _ _ _; first | refine r_lenm hG rfl rfl rfl rfl ?_ | refine r_len hG rfl rfl rfl rfl rfl ?_)
      | (show AOp _ _ ⟨_, .binOp _ _ _ _ _, _, _, _, _⟩ _ _ _; first | refine r_cmpT hG rfl rfl rfl rfl rfl (by omega) ?_ | refine r_cmpF hG rfl rfl rfl rfl rfl (by omega) ?_ | refine r_strT hG rfl rfl rfl rfl (by first | rfl | assumption) ?_ | refine r_strnF hG rfl rfl rfl rfl (by first | rfl | assumption) ?_ | refine r_strF hG rfl rfl rfl rfl (by assumption) ?_ | refine r_strnT hG rfl rfl rfl rfl (by assumption) ?_ | (refine r_cmp hG rfl rfl rfl rfl rfl (fun h => ?_) (fun h => ?_)) | (first | refine r_str hG rfl rfl rfl rfl (fun h => ?_) (fun h => ?_) | refine r_strn hG rfl rfl rfl rfl (fun h => ?_) (fun h => ?_)) | refine r_beq hG rfl rfl rfl rfl rfl ?_ | refine r_bin' hG rfl rfl rfl ?_)
      | (show AOp _ _ ⟨_, .pick _ _ _, _, _, _, _⟩ _ _ _; refine r_pick hG rfl rfl rfl ?_)
      | (show AOp _ _ ⟨_, .unOp _ _ _, _, _, _, _⟩ _ _ _; refine r_not hG rfl rfl rfl ?_)
      | (show AOp _ _ ⟨_, .call ⟨.value _, _, _⟩, _, _, _, _⟩ _ _ _; first | refine r_pure rfl rfl rfl rfl rfl (by apply hc <;> (first | assumption | omega | exact bytesT_map _ _ | exact bytesT_s _ | exact catsT_map _ _ | exact catsT_c _ | rfl | (simp; omega))) ?_ | fail)
      | refine r_q hG rfl rfl rfl ?_))
    | (show AL _ _ _ _ _ _ _ _; first | refine al_s rfl rfl rfl ?_ | (refine al_nil ?_; first | show AW _ _ _ _ _ _ | show ∃ x', _ < _ ∧ _)) | (show AW _ _ (.seq _ _) _ _ _; refine aw_seq' ?_; intro Q1) | (show AW _ _ (.region _ _ false) _ _ _; refine aw_regL' ?_; intro O1) | (show AW _ _ (.ret) _ _ _; refine aw_ret ?_; try dsimp only [thenA, inBlockA, jumpA, noGotoA]) | fail)
      exact ret_pure (res_tmp rfl res_nil) (.refl _) rfl
  · rw [decide_eq_false h4, Bool.false_and]
    repeat' (first
    | ((show AL _ _ _ _ _ _ _ _; refine al_cons rfl ?_); (first
      | (show AOp _ _ ⟨_, .move _, _, _, _, _⟩ _ _ _; refine r_move hG rfl rfl ?_)
      | (show AOp _ _ ⟨_, .assign _, _, _, _, _⟩ _ _ _; refine r_asg hG rfl rfl ?_)
      | (show AOp _ _ ⟨_, .call ⟨.builtin .len, _, _⟩, _, _, _, _⟩ _ _ _; first | refine r_lenm hG rfl rfl rfl rfl ?_ | refine r_len hG rfl rfl rfl rfl rfl ?_)
      | (show AOp _ _ ⟨_, .binOp _ _ _ _ _, _, _, _, _⟩ _ _ _; first | refine r_cmpT hG rfl rfl rfl rfl rfl (by omega) ?_ | refine r_cmpF hG rfl rfl rfl rfl rfl (by omega) ?_ | refine r_strT hG rfl rfl rfl rfl (by first | rfl | assumption) ?_ | refine r_strnF hG rfl rfl rfl rfl (by first | rfl | assumption) ?_ | refine r_strF hG rfl rfl rfl rfl (by assumption) ?_ | refine r_strnT hG rfl rfl rfl rfl (by assumption) ?_ | (refine r_cmp hG rfl rfl rfl rfl rfl (fun h => ?_) (fun h => ?_)) | (first | refine r_str hG rfl rfl rfl rfl (fun h => ?_) (fun h => ?_) | refine r_strn hG rfl rfl rfl rfl (fun h => ?_) (fun h => ?_)) | refine r_beq hG rfl rfl rfl rfl rfl ?_ | refine r_bin' hG rfl rfl rfl ?_)
      | (show AOp _ _ ⟨_, .pick _ _ _, _, _, _, _⟩ _ _ _; refine r_pick hG rfl rfl rfl ?_)
      | (show AOp _ _ ⟨_, .unOp _ _ _, _, _, _, _⟩ _ _ _; refine r_not hG rfl rfl rfl ?_)
      | refine r_q hG rfl rfl rfl ?_))
    | (show AL _ _ _ _ _ _ _ _; first | refine al_s rfl rfl rfl ?_ | (refine al_nil ?_; first | show AW _ _ _ _ _ _ | show ∃ x', _ < _ ∧ _)) | (show AW _ _ (.seq _ _) _ _ _; refine aw_seq' ?_; intro Q1) | (show AW _ _ (.region _ _ false) _ _ _; refine aw_regL' ?_; intro O1) | (show AW _ _ (.ret) _ _ _; refine aw_ret ?_; try dsimp only [thenA, inBlockA, jumpA, noGotoA]) | fail)
    exact ret_pure (res_tmp rfl res_nil) (.refl _) rfl
theorem ref_MayRing {x : T} {l : List (List UInt8)} (hx : lettersT x = some l) (hl : l.length ≤ bigLen) (hb : ∀ b ∈ l, b.length ≤ bigLen) : Ts.Pure Try.prog 63 [x] (.bool (mayL l)) := by
  refine Pure.weak (us := [lT l]) ?_ (wk1 (lettersT_wk hx))
  intro off
  refine acalls_mk (N := 19) (rs := [.tmp 2]) hG Try.func63 rfl rfl rfl rfl rfl ?_
  rw [mayL_any]
  unfold bigLen at hl
  repeat' (first
    | ((show AL _ _ _ _ _ _ _ _; refine al_cons rfl ?_); (first
      | (show AOp _ _ ⟨_, .move _, _, _, _, _⟩ _ _ _; refine r_move hG rfl rfl ?_)
      | (show AOp _ _ ⟨_, .assign _, _, _, _, _⟩ _ _ _; refine r_asg hG rfl rfl ?_)
      | (show AOp _ _ ⟨_, .call ⟨.builtin .len, _, _⟩, _, _, _, _⟩ _ _ _; first | refine r_lenm hG rfl rfl rfl rfl ?_ | refine r_len hG rfl rfl rfl rfl rfl ?_)
      | (show AOp _ _ ⟨_, .binOp .add _ _ _ _, _, _, _, _⟩ _ _ _; first | refine r_ari64 hG rfl rfl rfl rfl rfl (by omega) ?_ | refine r_aru64 hG rfl rfl rfl rfl rfl (by omega) ?_ | refine r_aru8 hG rfl rfl rfl rfl rfl (by omega) ?_ | refine r_aru16 hG rfl rfl rfl rfl rfl (by omega) ?_)
      | (show AOp _ _ ⟨_, .binOp _ _ _ _ _, _, _, _, _⟩ _ _ _; first | refine r_cmpT hG rfl rfl rfl rfl rfl (by omega) ?_ | refine r_cmpF hG rfl rfl rfl rfl rfl (by omega) ?_ | refine r_strT hG rfl rfl rfl rfl (by first | rfl | assumption) ?_ | refine r_strnF hG rfl rfl rfl rfl (by first | rfl | assumption) ?_ | refine r_strF hG rfl rfl rfl rfl (by assumption) ?_ | refine r_strnT hG rfl rfl rfl rfl (by assumption) ?_ | (refine r_cmp hG rfl rfl rfl rfl rfl (fun h => ?_) (fun h => ?_)) | (first | refine r_str hG rfl rfl rfl rfl (fun h => ?_) (fun h => ?_) | refine r_strn hG rfl rfl rfl rfl (fun h => ?_) (fun h => ?_)) | refine r_beq hG rfl rfl rfl rfl rfl ?_ | refine r_bin' hG rfl rfl rfl ?_)
      | (show AOp _ _ ⟨_, .load _ _, _, _, _, _⟩ _ _ _; first | refine r_ldro hG rfl rfl rfl ?_ | refine r_ld 0 hG rfl rfl rfl rfl ?_ | refine r_ld 1 hG rfl rfl rfl rfl ?_ | refine r_ld 2 hG rfl rfl rfl rfl ?_ | refine r_ld 3 hG rfl rfl rfl rfl ?_)
      | (show AOp _ _ ⟨_, .indexAddr _ _ _, _, _, _, _⟩ _ _ _; first | refine r_idx0 hG rfl rfl rfl rfl rfl rfl rfl ?_ | refine r_idxn hG rfl rfl rfl rfl rfl rfl rfl (by omega) ?_ | refine r_idxm hG rfl rfl rfl rfl rfl rfl rfl (by omega) ?_ | refine r_idx hG rfl rfl ?_)
      | refine r_q hG rfl rfl rfl ?_))
    | (show AL _ _ _ _ _ _ _ _; first | refine al_s rfl rfl rfl ?_ | (refine al_nil ?_; first | show AW _ _ _ _ _ _ | show ∃ x', _ < _ ∧ _)) | (show AW _ _ (.seq _ _) _ _ _; refine aw_seq' ?_; intro Q1) | (show AW _ _ (.region _ _ false) _ _ _; refine aw_regL' ?_; intro O1) | (show AW _ _ (.cond _ _ _) _ _ _; first | refine aw_if_t rfl ?_ | refine aw_if_f rfl ?_) | (show AW _ _ (.skip) _ _ _; refine aw_skip ?_; first | show AW _ _ _ _ _ _ | show ∃ x', _ < _ ∧ _) | (show AW _ _ (.block _ _) _ _ _; refine aw_block' ?_; intro Q1) | (show AW _ _ (.exit _) _ _ _; refine aw_exit ?_; first | show AW _ _ _ _ _ _ | show ∃ x', _ < _ ∧ _) | (show AW _ _ (.ret) _ _ _; refine aw_ret ?_; try dsimp only [thenA, inBlockA, jumpA, noGotoA]) | fail)
  refine aw_loop (X := IdX l) (fun x => [(0, lT l), (3, .int .i64 x.i)]) (fun x => ⟨[], [], off, none⟩) (fun x => l.length - x.i) ⟨0, Nat.zero_le _, fun j h => by omega⟩ ?_ (.refl _) ?_
  · exact .cons rfl (.consW rfl (.int rfl) (.nil _))
  rintro ⟨i, hi, hn⟩
  dsimp only
  by_cases hil : i < l.length
  · have hbi := hb _ (getD_mem hil)
    unfold bigLen at hbi
    by_cases hlb : 16 < (l.getD i default).length
    · have : anyL l = true := List.any_eq_true.2 ⟨_, getD_mem hil, decide_eq_true hlb⟩
      repeat' (first
    | ((show AL _ _ _ _ _ _ _ _; refine al_cons rfl ?_); (first
      | (show AOp _ _ ⟨_, .move _, _, _, _, _⟩ _ _ _; refine r_move hG rfl rfl ?_)
      | (show AOp _ _ ⟨_, .assign _, _, _, _, _⟩ _ _ _; refine r_asg hG rfl rfl ?_)
      | (show AOp _ _ ⟨_, .call ⟨.builtin .len, _, _⟩, _, _, _, _⟩ _ _ _; first | refine r_lenm hG rfl rfl rfl rfl ?_ | refine r_len hG rfl rfl rfl rfl rfl ?_)
      | (show AOp _ _ ⟨_, .binOp .add _ _ _ _, _, _, _, _⟩ _ _ _; first | refine r_ari64 hG rfl rfl rfl rfl rfl (by omega) ?_ | refine r_aru64 hG rfl rfl rfl rfl rfl (by omega) ?_ | refine r_aru8 hG rfl rfl rfl rfl rfl (by omega) ?_ | refine r_aru16 hG rfl rfl rfl rfl rfl (by omega) ?_)
      | (show AOp _ _ ⟨_, .binOp _ _ _ _ _, _, _, _, _⟩ _ _ _; first | refine r_cmpT hG rfl rfl rfl rfl rfl (by omega) ?_ | refine r_cmpF hG rfl rfl rfl rfl rfl (by omega) ?_ | refine r_strT hG rfl rfl rfl rfl (by first | rfl | assumption) ?_ | refine r_strnF hG rfl rfl rfl rfl (by first | rfl | assumption) ?_ | refine r_strF hG rfl rfl rfl rfl (by assumption) ?_ | refine r_strnT hG rfl rfl rfl rfl (by assumption) ?_ | (refine r_cmp hG rfl rfl rfl rfl rfl (fun h => ?_) (fun h => ?_)) | (first | refine r_str hG rfl rfl rfl rfl (fun h => ?_) (fun h => ?_) | refine r_strn hG rfl rfl rfl rfl (fun h => ?_) (fun h => ?_)) | refine r_beq hG rfl rfl rfl rfl rfl ?_ | refine r_bin' hG rfl rfl rfl ?_)
      | (show AOp _ _ ⟨_, .load _ _, _, _, _, _⟩ _ _ _; first | refine r_ldro hG rfl rfl rfl ?_ | refine r_ld 0 hG rfl rfl rfl rfl ?_ | refine r_ld 1 hG rfl rfl rfl rfl ?_ | refine r_ld 2 hG rfl rfl rfl rfl ?_ | refine r_ld 3 hG rfl rfl rfl rfl ?_)
      | (show AOp _ _ ⟨_, .indexAddr _ _ _, _, _, _, _⟩ _ _ _; first | refine r_idx0 hG rfl rfl rfl rfl rfl rfl rfl ?_ | refine r_idxn hG rfl rfl rfl rfl rfl rfl rfl (by omega) ?_ | refine r_idxm hG rfl rfl rfl rfl rfl rfl rfl (by omega) ?_ | refine r_idx hG rfl rfl ?_)
      | refine r_q hG rfl rfl rfl ?_))
    | (show AL _ _ _ _ _ _ _ _; first | refine al_s rfl rfl rfl ?_ | (refine al_nil ?_; first | show AW _ _ _ _ _ _ | show ∃ x', _ < _ ∧ _)) | (show AW _ _ (.seq _ _) _ _ _; refine aw_seq' ?_; intro Q1) | (show AW _ _ (.region _ _ false) _ _ _; refine aw_regL' ?_; intro O1) | (show AW _ _ (.cond _ _ _) _ _ _; first | refine aw_if_t rfl ?_ | refine aw_if_f rfl ?_) | (show AW _ _ (.skip) _ _ _; refine aw_skip ?_; first | show AW _ _ _ _ _ _ | show ∃ x', _ < _ ∧ _) | (show AW _ _ (.block _ _) _ _ _; refine aw_block' ?_; intro Q1) | (show AW _ _ (.exit _) _ _ _; refine aw_exit ?_; first | show AW _ _ _ _ _ _ | show ∃ x', _ < _ ∧ _) | (show AW _ _ (.ret) _ _ _; refine aw_ret ?_; try dsimp only [thenA, inBlockA, jumpA, noGotoA]) | fail)
      exact ret_pure (res_tmp rfl res_nil) (.eq (by rw [this]; simp; rfl)) rfl
    · repeat' (first
    | ((show AL _ _ _ _ _ _ _ _; refine al_cons rfl ?_); (first
      | (show AOp _ _ ⟨_, .move _, _, _, _, _⟩ _ _ _; refine r_move hG rfl rfl ?_)
      | (show AOp _ _ ⟨_, .assign _, _, _, _, _⟩ _ _ _; refine r_asg hG rfl rfl ?_)
      | (show AOp _ _ ⟨_, .call ⟨.builtin .len, _, _⟩, _, _, _, _⟩ _ _ _; first | refine r_lenm hG rfl rfl rfl rfl ?_ | refine r_len hG rfl rfl rfl rfl rfl ?_)
      | (show AOp _ _ ⟨_, .binOp .add _ _ _ _, _, _, _, _⟩ _ _ _; first | refine r_ari64 hG rfl rfl rfl rfl rfl (by omega) ?_ | refine r_aru64 hG rfl rfl rfl rfl rfl (by omega) ?_ | refine r_aru8 hG rfl rfl rfl rfl rfl (by omega) ?_ | refine r_aru16 hG rfl rfl rfl rfl rfl (by omega) ?_)
      | (show AOp _ _ ⟨_, .binOp _ _ _ _ _, _, _, _, _⟩ _ _ _; first | refine r_cmpT hG rfl rfl rfl rfl rfl (by omega) ?_ | refine r_cmpF hG rfl rfl rfl rfl rfl (by omega) ?_ | refine r_strT hG rfl rfl rfl rfl (by first | rfl | assumption) ?_ | refine r_strnF hG rfl rfl rfl rfl (by first | rfl | assumption) ?_ | refine r_strF hG rfl rfl rfl rfl (by assumption) ?_ | refine r_strnT hG rfl rfl rfl rfl (by assumption) ?_ | (refine r_cmp hG rfl rfl rfl rfl rfl (fun h => ?_) (fun h => ?_)) | (first | refine r_str hG rfl rfl rfl rfl (fun h => ?_) (fun h => ?_) | refine r_strn hG rfl rfl rfl rfl (fun h => ?_) (fun h => ?_)) | refine r_beq hG rfl rfl rfl rfl rfl ?_ | refine r_bin' hG rfl rfl rfl ?_)
      | (show AOp _ _ ⟨_, .load _ _, _, _, _, _⟩ _ _ _; first | refine r_ldro hG rfl rfl rfl ?_ | refine r_ld 0 hG rfl rfl rfl rfl ?_ | refine r_ld 1 hG rfl rfl rfl rfl ?_ | refine r_ld 2 hG rfl rfl rfl rfl ?_ | refine r_ld 3 hG rfl rfl rfl rfl ?_)
      | (show AOp _ _ ⟨_, .indexAddr _ _ _, _, _, _, _⟩ _ _ _; first | refine r_idx0 hG rfl rfl rfl rfl rfl rfl rfl ?_ | refine r_idxn hG rfl rfl rfl rfl rfl rfl rfl (by omega) ?_ | refine r_idxm hG rfl rfl rfl rfl rfl rfl rfl (by omega) ?_ | refine r_idx hG rfl rfl ?_)
      | refine r_q hG rfl rfl rfl ?_))
    | (show AL _ _ _ _ _ _ _ _; first | refine al_s rfl rfl rfl ?_ | (refine al_nil ?_; first | show AW _ _ _ _ _ _ | show ∃ x', _ < _ ∧ _)) | (show AW _ _ (.seq _ _) _ _ _; refine aw_seq' ?_; intro Q1) | (show AW _ _ (.region _ _ false) _ _ _; refine aw_regL' ?_; intro O1) | (show AW _ _ (.cond _ _ _) _ _ _; first | refine aw_if_t rfl ?_ | refine aw_if_f rfl ?_) | (show AW _ _ (.skip) _ _ _; refine aw_skip ?_; first | show AW _ _ _ _ _ _ | show ∃ x', _ < _ ∧ _) | (show AW _ _ (.block _ _) _ _ _; refine aw_block' ?_; intro Q1) | (show AW _ _ (.exit _) _ _ _; refine aw_exit ?_; first | show AW _ _ _ _ _ _ | show ∃ x', _ < _ ∧ _) | (show AW _ _ (.ret) _ _ _; refine aw_ret ?_; try dsimp only [thenA, inBlockA, jumpA, noGotoA]) | fail)
      refine ⟨⟨i + 1, by omega, fun j hj => ?_⟩, by dsimp only; omega, ?_, .refl _⟩
      · rcases Nat.lt_succ_iff_lt_or_eq.1 hj with h | rfl
        · exact hn j h
        · exact decide_eq_false hlb
      · exact .cons rfl (.consW rfl (.int (by simp)) (.nil _))
  · obtain rfl : i = l.length := by omega
    have : anyL l = false := Bool.eq_false_iff.2 fun e => by
      have h1 := (idxL_any l).2 e
      rw [idxL_no hn] at h1; omega
    by_cases h4 : l.length ≤ 4
    · repeat' (first
    | ((show AL _ _ _ _ _ _ _ _; refine al_cons rfl ?_); (first
      | (show AOp _ _ ⟨_, .move _, _, _, _, _⟩ _ _ _; refine r_move hG rfl rfl ?_)
      | (show AOp _ _ ⟨_, .assign _, _, _, _, _⟩ _ _ _; refine r_asg hG rfl rfl ?_)
      | (show AOp _ _ ⟨_, .call ⟨.builtin .len, _, _⟩, _, _, _, _⟩ _ _ _; first | refine r_lenm hG rfl rfl rfl rfl ?_ | refine r_len hG rfl rfl rfl rfl rfl ?_)
      | (show AOp _ _ ⟨_, .binOp .add _ _ _ _, _, _, _, _⟩ _ _ _; first | refine r_ari64 hG rfl rfl rfl rfl rfl (by omega) ?_ | refine r_aru64 hG rfl rfl rfl rfl rfl (by omega) ?_ | refine r_aru8 hG rfl rfl rfl rfl rfl (by omega) ?_ | refine r_aru16 hG rfl rfl rfl rfl rfl (by omega) ?_)
      | (show AOp _ _ ⟨_, .binOp _ _ _ _ _, _, _, _, _⟩ _ _ _; first | refine r_cmpT hG rfl rfl rfl rfl rfl (by omega) ?_ | refine r_cmpF hG rfl rfl rfl rfl rfl (by omega) ?_ | refine r_strT hG rfl rfl rfl rfl (by first | rfl | assumption) ?_ | refine r_strnF hG rfl rfl rfl rfl (by first | rfl | assumption) ?_ | refine r_strF hG rfl rfl rfl rfl (by assumption) ?_ | refine r_strnT hG rfl rfl rfl rfl (by assumption) ?_ | (refine r_cmp hG rfl rfl rfl rfl rfl (fun h => ?_) (fun h => ?_)) | (first | refine r_str hG rfl rfl rfl rfl (fun h => ?_) (fun h => ?_) | refine r_strn hG rfl rfl rfl rfl (fun h => ?_) (fun h => ?_)) | refine r_beq hG rfl rfl rfl rfl rfl ?_ | refine r_bin' hG rfl rfl rfl ?_)
      | (show AOp _ _ ⟨_, .load _ _, _, _, _, _⟩ _ _ _; first | refine r_ldro hG rfl rfl rfl ?_ | refine r_ld 0 hG rfl rfl rfl rfl ?_ | refine r_ld 1 hG rfl rfl rfl rfl ?_ | refine r_ld 2 hG rfl rfl rfl rfl ?_ | refine r_ld 3 hG rfl rfl rfl rfl ?_)
      | (show AOp _ _ ⟨_, .indexAddr _ _ _, _, _, _, _⟩ _ _ _; first | refine r_idx0 hG rfl rfl rfl rfl rfl rfl rfl ?_ | refine r_idxn hG rfl rfl rfl rfl rfl rfl rfl (by omega) ?_ | refine r_idxm hG rfl rfl rfl rfl rfl rfl rfl (by omega) ?_ | refine r_idx hG rfl rfl ?_)
      | refine r_q hG rfl rfl rfl ?_))
    | (show AL _ _ _ _ _ _ _ _; first | refine al_s rfl rfl rfl ?_ | (refine al_nil ?_; first | show AW _ _ _ _ _ _ | show ∃ x', _ < _ ∧ _)) | (show AW _ _ (.seq _ _) _ _ _; refine aw_seq' ?_; intro Q1) | (show AW _ _ (.region _ _ false) _ _ _; refine aw_regL' ?_; intro O1) | (show AW _ _ (.cond _ _ _) _ _ _; first | refine aw_if_t rfl ?_ | refine aw_if_f rfl ?_) | (show AW _ _ (.skip) _ _ _; refine aw_skip ?_; first | show AW _ _ _ _ _ _ | show ∃ x', _ < _ ∧ _) | (show AW _ _ (.block _ _) _ _ _; refine aw_block' ?_; intro Q1) | (show AW _ _ (.exit _) _ _ _; refine aw_exit ?_; first | show AW _ _ _ _ _ _ | show ∃ x', _ < _ ∧ _) | (show AW _ _ (.ret) _ _ _; refine aw_ret ?_; try dsimp only [thenA, inBlockA, jumpA, noGotoA]) | fail)
      exact ret_pure (res_tmp rfl res_nil) (.eq (by rw [this]; simp [h4]; rfl)) rfl
    · repeat' (first
    | ((show AL _ _ _ _ _ _ _ _; refine al_cons rfl ?_); (first
      | (show AOp _ _ ⟨_, .move _, _, _, _, _⟩ _ _ _; refine r_move hG rfl rfl ?_)
      | (show AOp _ _ ⟨_, .assign _, _, _, _, _⟩ _ _ _; refine r_asg hG rfl rfl ?_)
      | (show AOp _ _ ⟨_, .call ⟨.builtin .len, _, _⟩, _, _, _, _⟩ _ _ _; first | refine r_lenm hG rfl rfl rfl rfl ?_ | refine r_len hG rfl rfl rfl rfl rfl ?_)
      | (show AOp _ _ ⟨_, .binOp .add _ _ _ _, _, _, _, _⟩ _ _ _; first | refine r_ari64 hG rfl rfl rfl rfl rfl (by omega) ?_ | refine r_aru64 hG rfl rfl rfl rfl rfl (by omega) ?_ | refine r_aru8 hG rfl rfl rfl rfl rfl (by omega) ?_ | refine r_aru16 hG rfl rfl rfl rfl rfl (by omega) ?_)
      | (show AOp _ _ ⟨_, .binOp _ _ _ _ _, _, _, _, _⟩ _ _ _; first | refine r_cmpT hG rfl rfl rfl rfl rfl (by omega) ?_ | refine r_cmpF hG rfl rfl rfl rfl rfl (by omega) ?_ | refine r_strT hG rfl rfl rfl rfl (by first | rfl | assumption) ?_ | refine r_strnF hG rfl rfl rfl rfl (by first | rfl | assumption) ?_ | refine r_strF hG rfl rfl rfl rfl (by assumption) ?_ | refine r_strnT hG rfl rfl rfl rfl (by assumption) ?_ | (refine r_cmp hG rfl rfl rfl rfl rfl (fun h => ?_) (fun h => ?_)) | (first | refine r_str hG rfl rfl rfl rfl (fun h => ?_) (fun h => ?_) | refine r_strn hG rfl rfl rfl rfl (fun h => ?_) (fun h => ?_)) | refine r_beq hG rfl rfl rfl rfl rfl ?_ | refine r_bin' hG rfl rfl rfl ?_)
      | (show AOp _ _ ⟨_, .load _ _, _, _, _, _⟩ _ _ _; first | refine r_ldro hG rfl rfl rfl ?_ | refine r_ld 0 hG rfl rfl rfl rfl ?_ | refine r_ld 1 hG rfl rfl rfl rfl ?_ | refine r_ld 2 hG rfl rfl rfl rfl ?_ | refine r_ld 3 hG rfl rfl rfl rfl ?_)
      | (show AOp _ _ ⟨_, .indexAddr _ _ _, _, _, _, _⟩ _ _ _; first | refine r_idx0 hG rfl rfl rfl rfl rfl rfl rfl ?_ | refine r_idxn hG rfl rfl rfl rfl rfl rfl rfl (by omega) ?_ | refine r_idxm hG rfl rfl rfl rfl rfl rfl rfl (by omega) ?_ | refine r_idx hG rfl rfl ?_)
      | refine r_q hG rfl rfl rfl ?_))
    | (show AL _ _ _ _ _ _ _ _; first | refine al_s rfl rfl rfl ?_ | (refine al_nil ?_; first | show AW _ _ _ _ _ _ | show ∃ x', _ < _ ∧ _)) | (show AW _ _ (.seq _ _) _ _ _; refine aw_seq' ?_; intro Q1) | (show AW _ _ (.region _ _ false) _ _ _; refine aw_regL' ?_; intro O1) | (show AW _ _ (.cond _ _ _) _ _ _; first | refine aw_if_t rfl ?_ | refine aw_if_f rfl ?_) | (show AW _ _ (.skip) _ _ _; refine aw_skip ?_; first | show AW _ _ _ _ _ _ | show ∃ x', _ < _ ∧ _) | (show AW _ _ (.block _ _) _ _ _; refine aw_block' ?_; intro Q1) | (show AW _ _ (.exit _) _ _ _; refine aw_exit ?_; first | show AW _ _ _ _ _ _ | show ∃ x', _ < _ ∧ _) | (show AW _ _ (.ret) _ _ _; refine aw_ret ?_; try dsimp only [thenA, inBlockA, jumpA, noGotoA]) | fail)
      exact ret_pure (res_tmp rfl res_nil) (.eq (by rw [this]; simp [h4]; rfl)) rfl
structure RpX (l : List (List UInt8)) where
  i : Nat
  k : Nat
  hi : i ≤ l.length
theorem putBs_foldl_len (b : List UInt8) (l : List (List UInt8)) (h : ∀ s ∈ l, s.length ≤ 16) : (l.foldl putBs b).length ≤ b.length + 18 * l.length := by
  rw [fold_put, List.length_append]; have := lets_len l h; omega
theorem r_Put {x y : T} {b : List UInt8} {l : List (List UInt8)} (hx : bytesT x = some b) (hy : lettersT y = some l) (hl : b.length ≤ 4294000000) (hm : mayL l = true) :
    Owns Try.prog 35 [x, y] 1 ((putR b l).map bT) := by
  refine Owns.weak (us := [sT b, lT l]) ?_ (wk2 (bytesT_wk hx) (lettersT_wk hy))
  intro off
  refine acalls_mk (N := 24) (rs := [.tmp 4]) hG Try.func35 rfl rfl rfl rfl rfl ?_
  obtain ⟨h4, h16⟩ := mayL_iff.1 hm
  have hpl := putI_le l.length 1
  repeat' (first
    | ((show AL _ _ _ _ _ _ _ _; refine al_cons rfl ?_); (first
      | (show AOp _ _ ⟨_, .move _, _, _, _, _⟩ _ _ _; refine r_move hG rfl rfl ?_)
      | (show AOp _ _ ⟨_, .assign _, _, _, _, _⟩ _ _ _; refine r_asg hG rfl rfl ?_)
      | (show AOp _ _ ⟨_, .call ⟨.builtin .len, _, _⟩, _, _, _, _⟩ _ _ _; first | refine r_lenm hG rfl rfl rfl rfl ?_ | refine r_len hG rfl rfl rfl rfl rfl ?_)
      | (show AOp _ _ ⟨_, .binOp .add _ _ _ _, _, _, _, _⟩ _ _ _; first | refine r_ari64 hG rfl rfl rfl rfl rfl (by omega) ?_ | refine r_aru64 hG rfl rfl rfl rfl rfl (by omega) ?_ | refine r_aru8 hG rfl rfl rfl rfl rfl (by omega) ?_ | refine r_aru16 hG rfl rfl rfl rfl rfl (by omega) ?_)
      | (show AOp _ _ ⟨_, .binOp _ _ _ _ _, _, _, _, _⟩ _ _ _; first | refine r_cmpT hG rfl rfl rfl rfl rfl (by omega) ?_ | refine r_cmpF hG rfl rfl rfl rfl rfl (by omega) ?_ | refine r_strT hG rfl rfl rfl rfl (by first | rfl | assumption) ?_ | refine r_strnF hG rfl rfl rfl rfl (by first | rfl | assumption) ?_ | refine r_strF hG rfl rfl rfl rfl (by assumption) ?_ | refine r_strnT hG rfl rfl rfl rfl (by assumption) ?_ | (refine r_cmp hG rfl rfl rfl rfl rfl (fun h => ?_) (fun h => ?_)) | (first | refine r_str hG rfl rfl rfl rfl (fun h => ?_) (fun h => ?_) | refine r_strn hG rfl rfl rfl rfl (fun h => ?_) (fun h => ?_)) | refine r_beq hG rfl rfl rfl rfl rfl ?_ | refine r_bin' hG rfl rfl rfl ?_)
      | (show AOp _ _ ⟨_, .load _ _, _, _, _, _⟩ _ _ _; first | refine r_ldro hG rfl rfl rfl ?_ | refine r_ld 0 hG rfl rfl rfl rfl ?_ | refine r_ld 1 hG rfl rfl rfl rfl ?_ | refine r_ld 2 hG rfl rfl rfl rfl ?_ | refine r_ld 3 hG rfl rfl rfl rfl ?_)
      | (show AOp _ _ ⟨_, .indexAddr _ _ _, _, _, _, _⟩ _ _ _; first | refine r_idx0 hG rfl rfl rfl rfl rfl rfl rfl ?_ | refine r_idxn hG rfl rfl rfl rfl rfl rfl rfl (by omega) ?_ | refine r_idxm hG rfl rfl rfl rfl rfl rfl rfl (by omega) ?_ | refine r_idx hG rfl rfl ?_)
      | (show AOp _ _ ⟨_, .convert _ _ _, _, _, _, _⟩ _ _ _; first | refine r_tostr hG rfl rfl rfl rfl rfl rfl rfl rfl (by first | exact bytesT_map _ _ | exact bytesT_s _ | rfl) ?_ | refine r_cv8 hG rfl rfl rfl rfl rfl rfl ?_ | refine r_cv16 hG rfl rfl rfl rfl rfl rfl ?_ | refine r_cv_i64 hG rfl rfl rfl rfl rfl (by omega) ?_ | refine r_cv_u64 hG rfl rfl rfl rfl rfl (by omega) ?_ | refine r_cv_u8 hG rfl rfl rfl rfl rfl (by omega) ?_ | refine r_cv_u16 hG rfl rfl rfl rfl rfl (by omega) ?_ | refine r_cvw hG rfl rfl rfl rfl rfl ?_)
      | (show AOp _ _ ⟨_, .call ⟨.value _, _, _⟩, _, _, _, _⟩ _ _ _; first | (refine r_owns rfl rfl rfl rfl rfl (by apply num_Put <;> (first | assumption | omega | exact bytesT_map _ _ | exact bytesT_s _ | exact catsT_map _ _ | exact catsT_c _ | rfl | (simp; omega))) (fun k => ?_)) | (have := kk; clear this; refine r_pure rfl rfl rfl rfl rfl (Owns.pure (by apply num_Put <;> (first | assumption | omega | exact bytesT_map _ _ | exact bytesT_s _ | exact catsT_map _ _ | exact catsT_c _ | rfl | (simp; omega)))) ?_) | fail)
      | refine r_q hG rfl rfl rfl ?_))
    | (show AL _ _ _ _ _ _ _ _; first | refine al_s rfl rfl rfl ?_ | (refine al_nil ?_; first | show AW _ _ _ _ _ _ | show ∃ x', _ < _ ∧ _)) | (show AW _ _ (.seq _ _) _ _ _; refine aw_seq' ?_; intro Q1) | (show AW _ _ (.region _ _ false) _ _ _; refine aw_regL' ?_; intro O1) | (show AW _ _ (.cond _ _ _) _ _ _; first | refine aw_if_t rfl ?_ | refine aw_if_f rfl ?_) | (show AW _ _ (.skip) _ _ _; refine aw_skip ?_; first | show AW _ _ _ _ _ _ | show ∃ x', _ < _ ∧ _) | (show AW _ _ (.block _ _) _ _ _; refine aw_block' ?_; intro Q1) | (show AW _ _ (.exit _) _ _ _; refine aw_exit ?_; first | show AW _ _ _ _ _ _ | show ∃ x', _ < _ ∧ _) | (show AW _ _ (.ret) _ _ _; refine aw_ret ?_; try dsimp only [thenA, inBlockA, jumpA, noGotoA]) | fail)
  refine aw_loop (X := RpX l) (fun x => [(13, lT l), (14, .int .i64 l.length), (15, .int .i64 x.i), (5, .sl 1 (.tok x.k) (((l.take x.i).foldl putBs (b ++ putI l.length 1)).map bT))]) (fun x => ⟨[], [x.k], off, none⟩) (fun x => l.length - x.i) ⟨0, _, Nat.zero_le _⟩ ?_ (.refl _) ?_
  · exact .cons rfl (.consW rfl (.int (by simp)) (.consW rfl (.int rfl) (.cons rfl (.nil _))))
  rintro ⟨i, k, hi⟩
  dsimp only
  by_cases hil : i < l.length
  · have hsi := h16 _ (getD_mem hil)
    have hlen := putBs_foldl_len (b ++ putI l.length 1) (l.take i) fun s hs => h16 s (List.mem_of_mem_take hs)
    rw [List.length_append, List.length_take] at hlen
    have hft : (l.take (i + 1)).foldl putBs (b ++ putI l.length 1) = putBs ((l.take i).foldl putBs (b ++ putI l.length 1)) (l.getD i default) := by rw [take_snoc l i hil, List.foldl_append]; rfl
    generalize hz : (l.take i).foldl putBs (b ++ putI l.length 1) = z at *
    repeat' (first
    | ((show AL _ _ _ _ _ _ _ _; refine al_cons rfl ?_); (first
      | (show AOp _ _ ⟨_, .move _, _, _, _, _⟩ _ _ _; refine r_move hG rfl rfl ?_)
      | (show AOp _ _ ⟨_, .assign _, _, _, _, _⟩ _ _ _; refine r_asg hG rfl rfl ?_)
      | (show AOp _ _ ⟨_, .call ⟨.builtin .len, _, _⟩, _, _, _, _⟩ _ _ _; first | refine r_lenm hG rfl rfl rfl rfl ?_ | refine r_len hG rfl rfl rfl rfl rfl ?_)
      | (show AOp _ _ ⟨_, .binOp .add _ _ _ _, _, _, _, _⟩ _ _ _; first | refine r_ari64 hG rfl rfl rfl rfl rfl (by omega) ?_ | refine r_aru64 hG rfl rfl rfl rfl rfl (by omega) ?_ | refine r_aru8 hG rfl rfl rfl rfl rfl (by omega) ?_ | refine r_aru16 hG rfl rfl rfl rfl rfl (by omega) ?_)
      | (show AOp _ _ ⟨_, .binOp _ _ _ _ _, _, _, _, _⟩ _ _ _; first | refine r_cmpT hG rfl rfl rfl rfl rfl (by omega) ?_ | refine r_cmpF hG rfl rfl rfl rfl rfl (by omega) ?_ | refine r_strT hG rfl rfl rfl rfl (by first | rfl | assumption) ?_ | refine r_strnF hG rfl rfl rfl rfl (by first | rfl | assumption) ?_ | refine r_strF hG rfl rfl rfl rfl (by assumption) ?_ | refine r_strnT hG rfl rfl rfl rfl (by assumption) ?_ | (refine r_cmp hG rfl rfl rfl rfl rfl (fun h => ?_) (fun h => ?_)) | (first | refine r_str hG rfl rfl rfl rfl (fun h => ?_) (fun h => ?_) | refine r_strn hG rfl rfl rfl rfl (fun h => ?_) (fun h => ?_)) | refine r_beq hG rfl rfl rfl rfl rfl ?_ | refine r_bin' hG rfl rfl rfl ?_)
      | (show AOp _ _ ⟨_, .load _ _, _, _, _, _⟩ _ _ _; first | refine r_ldro hG rfl rfl rfl ?_ | refine r_ld 0 hG rfl rfl rfl rfl ?_ | refine r_ld 1 hG rfl rfl rfl rfl ?_ | refine r_ld 2 hG rfl rfl rfl rfl ?_ | refine r_ld 3 hG rfl rfl rfl rfl ?_)
      | (show AOp _ _ ⟨_, .indexAddr _ _ _, _, _, _, _⟩ _ _ _; first | refine r_idx0 hG rfl rfl rfl rfl rfl rfl rfl ?_ | refine r_idxn hG rfl rfl rfl rfl rfl rfl rfl (by omega) ?_ | refine r_idxm hG rfl rfl rfl rfl rfl rfl rfl (by omega) ?_ | refine r_idx hG rfl rfl ?_)
      | (show AOp _ _ ⟨_, .convert _ _ _, _, _, _, _⟩ _ _ _; first | refine r_tostr hG rfl rfl rfl rfl rfl rfl rfl rfl (by first | exact bytesT_map _ _ | exact bytesT_s _ | rfl) ?_ | refine r_cv8 hG rfl rfl rfl rfl rfl rfl ?_ | refine r_cv16 hG rfl rfl rfl rfl rfl rfl ?_ | refine r_cv_i64 hG rfl rfl rfl rfl rfl (by omega) ?_ | refine r_cv_u64 hG rfl rfl rfl rfl rfl (by omega) ?_ | refine r_cv_u8 hG rfl rfl rfl rfl rfl (by omega) ?_ | refine r_cv_u16 hG rfl rfl rfl rfl rfl (by omega) ?_ | refine r_cvw hG rfl rfl rfl rfl rfl ?_)
      | (show AOp _ _ ⟨_, .call ⟨.value _, _, _⟩, _, _, _, _⟩ _ _ _; first | (refine r_owns rfl rfl rfl rfl rfl (by apply num_PutBytes <;> (first | assumption | omega | exact bytesT_map _ _ | exact bytesT_s _ | exact catsT_map _ _ | exact catsT_c _ | rfl | (simp; omega))) (fun k => ?_)) | (have := kk; clear this; refine r_pure rfl rfl rfl rfl rfl (Owns.pure (by apply num_PutBytes <;> (first | assumption | omega | exact bytesT_map _ _ | exact bytesT_s _ | exact catsT_map _ _ | exact catsT_c _ | rfl | (simp; omega)))) ?_) | fail)
      | refine r_q hG rfl rfl rfl ?_))
    | (show AL _ _ _ _ _ _ _ _; first | refine al_s rfl rfl rfl ?_ | (refine al_nil ?_; first | show AW _ _ _ _ _ _ | show ∃ x', _ < _ ∧ _)) | (show AW _ _ (.seq _ _) _ _ _; refine aw_seq' ?_; intro Q1) | (show AW _ _ (.region _ _ false) _ _ _; refine aw_regL' ?_; intro O1) | (show AW _ _ (.cond _ _ _) _ _ _; first | refine aw_if_t rfl ?_ | refine aw_if_f rfl ?_) | (show AW _ _ (.skip) _ _ _; refine aw_skip ?_; first | show AW _ _ _ _ _ _ | show ∃ x', _ < _ ∧ _) | (show AW _ _ (.block _ _) _ _ _; refine aw_block' ?_; intro Q1) | (show AW _ _ (.exit _) _ _ _; refine aw_exit ?_; first | show AW _ _ _ _ _ _ | show ∃ x', _ < _ ∧ _) | (show AW _ _ (.ret) _ _ _; refine aw_ret ?_; try dsimp only [thenA, inBlockA, jumpA, noGotoA]) | fail)
    refine ⟨⟨i + 1, _, by omega⟩, by dsimp only; omega, ?_, drop_tok⟩
    exact .cons rfl (.cons rfl (.consW rfl (.int (by simp)) (.consW rfl (.eq (by rw [hft])) (.nil _))))
  · obtain rfl : i = l.length := by omega
    repeat' (first
    | ((show AL _ _ _ _ _ _ _ _; refine al_cons rfl ?_); (first
      | (show AOp _ _ ⟨_, .move _, _, _, _, _⟩ _ _ _; refine r_move hG rfl rfl ?_)
      | (show AOp _ _ ⟨_, .assign _, _, _, _, _⟩ _ _ _; refine r_asg hG rfl rfl ?_)
      | (show AOp _ _ ⟨_, .call ⟨.builtin .len, _, _⟩, _, _, _, _⟩ _ _ _; first | refine r_lenm hG rfl rfl rfl rfl ?_ | refine r_len hG rfl rfl rfl rfl rfl ?_)
      | (show AOp _ _ ⟨_, .binOp .add _ _ _ _, _, _, _, _⟩ _ _ _; first | refine r_ari64 hG rfl rfl rfl rfl rfl (by omega) ?_ | refine r_aru64 hG rfl rfl rfl rfl rfl (by omega) ?_ | refine r_aru8 hG rfl rfl rfl rfl rfl (by omega) ?_ | refine r_aru16 hG rfl rfl rfl rfl rfl (by omega) ?_)
      | (show AOp _ _ ⟨_, .binOp _ _ _ _ _, _, _, _, _⟩ _ _ _; first | refine r_cmpT hG rfl rfl rfl rfl rfl (by omega) ?_ | refine r_cmpF hG rfl rfl rfl rfl rfl (by omega) ?_ | refine r_strT hG rfl rfl rfl rfl (by first | rfl | assumption) ?_ | refine r_strnF hG rfl rfl rfl rfl (by first | rfl | assumption) ?_ | refine r_strF hG rfl rfl rfl rfl (by assumption) ?_ | refine r_strnT hG rfl rfl rfl rfl (by assumption) ?_ | (refine r_cmp hG rfl rfl rfl rfl rfl (fun h => ?_) (fun h => ?_)) | (first | refine r_str hG rfl rfl rfl rfl (fun h => ?_) (fun h => ?_) | refine r_strn hG rfl rfl rfl rfl (fun h => ?_) (fun h => ?_)) | refine r_beq hG rfl rfl rfl rfl rfl ?_ | refine r_bin' hG rfl rfl rfl ?_)
      | (show AOp _ _ ⟨_, .load _ _, _, _, _, _⟩ _ _ _; first | refine r_ldro hG rfl rfl rfl ?_ | refine r_ld 0 hG rfl rfl rfl rfl ?_ | refine r_ld 1 hG rfl rfl rfl rfl ?_ | refine r_ld 2 hG rfl rfl rfl rfl ?_ | refine r_ld 3 hG rfl rfl rfl rfl ?_)
      | (show AOp _ _ ⟨_, .indexAddr _ _ _, _, _, _, _⟩ _ _ _; first | refine r_idx0 hG rfl rfl rfl rfl rfl rfl rfl ?_ | refine r_idxn hG rfl rfl rfl rfl rfl rfl rfl (by omega) ?_ | refine r_idxm hG rfl rfl rfl rfl rfl rfl rfl (by omega) ?_ | refine r_idx hG rfl rfl ?_)
      | (show AOp _ _ ⟨_, .convert _ _ _, _, _, _, _⟩ _ _ _; first | refine r_tostr hG rfl rfl rfl rfl rfl rfl rfl rfl (by first | exact bytesT_map _ _ | exact bytesT_s _ | rfl) ?_ | refine r_cv8 hG rfl rfl rfl rfl rfl rfl ?_ | refine r_cv16 hG rfl rfl rfl rfl rfl rfl ?_ | refine r_cv_i64 hG rfl rfl rfl rfl rfl (by omega) ?_ | refine r_cv_u64 hG rfl rfl rfl rfl rfl (by omega) ?_ | refine r_cv_u8 hG rfl rfl rfl rfl rfl (by omega) ?_ | refine r_cv_u16 hG rfl rfl rfl rfl rfl (by omega) ?_ | refine r_cvw hG rfl rfl rfl rfl rfl ?_)
      | refine r_q hG rfl rfl rfl ?_))
    | (show AL _ _ _ _ _ _ _ _; first | refine al_s rfl rfl rfl ?_ | (refine al_nil ?_; first | show AW _ _ _ _ _ _ | show ∃ x', _ < _ ∧ _)) | (show AW _ _ (.seq _ _) _ _ _; refine aw_seq' ?_; intro Q1) | (show AW _ _ (.region _ _ false) _ _ _; refine aw_regL' ?_; intro O1) | (show AW _ _ (.cond _ _ _) _ _ _; first | refine aw_if_t rfl ?_ | refine aw_if_f rfl ?_) | (show AW _ _ (.skip) _ _ _; refine aw_skip ?_; first | show AW _ _ _ _ _ _ | show ∃ x', _ < _ ∧ _) | (show AW _ _ (.block _ _) _ _ _; refine aw_block' ?_; intro Q1) | (show AW _ _ (.exit _) _ _ _; refine aw_exit ?_; first | show AW _ _ _ _ _ _ | show ∃ x', _ < _ ∧ _) | (show AW _ _ (.ret) _ _ _; refine aw_ret ?_; try dsimp only [thenA, inBlockA, jumpA, noGotoA]) | fail)
    exact ret_owns 0 (res_tmp rfl res_nil) rfl (by rw [putR, List.take_length]) rfl
attribute [local irreducible] putR takeR mayL placeN
end Go.Proofs.Ytholeicgmkjadaa
namespace Go.Proofs.Ytholeicgmkjadaa
open Go.Ts Go.Sets
attribute [local irreducible] Go.Ts.AW Go.Ts.AOps Go.Ts.AL Go.Ts.AOp Go.Ts.ACalls Go.Ts.DL Go.Ts.DQ Go.Ts.EL
structure MSX (a : List UInt16) where
  i : Nat
  hi : 1 ≤ i
  hp : ∀ j, j + 1 < i → j + 1 < a.length → a.getD j default < a.getD (j + 1) default
theorem ref_MaySet {x : T} {a : List UInt16} (hx : catsT x = some a) (hl : a.length ≤ 140737488351232) : Pure Try.prog 50 [x] (.bool (mayC a)) := by
  refine Pure.weak (us := [cT a]) ?_ (wk1 (catsT_wk hx))
  intro off
  refine acalls_mk (N := 23) (rs := [.tmp 2]) hG Try.func50 rfl rfl rfl rfl rfl ?_
  repeat' (first
    | ((first | (show AL _ _ _ _ _ _ _ _; refine al_cons rfl ?_) | (show DL _ _ _ _ _ _ _; refine' dl_cons rfl rfl (fun K kk => ?_) ?_; try (show Go.Ts.T; rotate_left))); (first
      | (show AOp _ _ ⟨_, .move _, _, _, _, _⟩ _ _ _; refine r_move hG rfl rfl ?_)
      | (show AOp _ _ ⟨_, .assign _, _, _, _, _⟩ _ _ _; refine r_asg hG rfl rfl ?_)
      | (show AOp _ _ ⟨_, .call ⟨.builtin .len, _, _⟩, _, _, _, _⟩ _ _ _; first | refine r_lenm hG rfl rfl rfl rfl ?_ | refine r_len hG rfl rfl rfl rfl rfl ?_)
      | (show AOp _ _ ⟨_, .binOp .add _ _ _ _, _, _, _, _⟩ _ _ _; first | refine r_ari64 hG rfl rfl rfl rfl rfl (by omega) ?_ | refine r_aru64 hG rfl rfl rfl rfl rfl (by omega) ?_ | refine r_aru8 hG rfl rfl rfl rfl rfl (by omega) ?_ | refine r_aru16 hG rfl rfl rfl rfl rfl (by omega) ?_)
      | (show AOp _ _ ⟨_, .binOp .sub _ _ _ _, _, _, _, _⟩ _ _ _; first | refine r_ari64 hG rfl rfl rfl rfl rfl (by omega) ?_ | refine r_aru64 hG rfl rfl rfl rfl rfl (by omega) ?_ | refine r_aru8 hG rfl rfl rfl rfl rfl (by omega) ?_ | refine r_aru16 hG rfl rfl rfl rfl rfl (by omega) ?_)
      | (show AOp _ _ ⟨_, .binOp _ _ _ _ _, _, _, _, _⟩ _ _ _; first | refine r_cmpT hG rfl rfl rfl rfl rfl (by omega) ?_ | refine r_cmpF hG rfl rfl rfl rfl rfl (by omega) ?_ | refine r_strT hG rfl rfl rfl rfl (by first | rfl | assumption) ?_ | refine r_strnF hG rfl rfl rfl rfl (by first | rfl | assumption) ?_ | refine r_strF hG rfl rfl rfl rfl (by assumption) ?_ | refine r_strnT hG rfl rfl rfl rfl (by assumption) ?_ | ((fail_if_success have := kk); refine r_cmp hG rfl rfl rfl rfl rfl (fun h => ?_) (fun h => ?_)) | ((fail_if_success have := kk); first | refine r_str hG rfl rfl rfl rfl (fun h => ?_) (fun h => ?_) | refine r_strn hG rfl rfl rfl rfl (fun h => ?_) (fun h => ?_)) | refine r_beq hG rfl rfl rfl rfl rfl ?_ | refine r_bin' hG rfl rfl rfl ?_)
      | (show AOp _ _ ⟨_, .load _ _, _, _, _, _⟩ _ _ _; first | refine r_ldro hG rfl rfl rfl ?_ | refine r_ld 0 hG rfl rfl rfl rfl ?_ | refine r_ld 1 hG rfl rfl rfl rfl ?_ | refine r_ld 2 hG rfl rfl rfl rfl ?_ | refine r_ld 3 hG rfl rfl rfl rfl ?_)
      | (show AOp _ _ ⟨_, .indexAddr _ _ _, _, _, _, _⟩ _ _ _; first | refine r_idx0 hG rfl rfl rfl rfl rfl rfl rfl ?_ | refine r_idxn hG rfl rfl rfl rfl rfl rfl rfl (by omega) ?_ | refine r_idxm hG rfl rfl rfl rfl rfl rfl rfl (by omega) ?_ | refine r_idx hG rfl rfl ?_)
      | refine r_q hG rfl rfl rfl ?_); try exact kk)
    | (show AL _ _ _ _ _ _ _ _; first | refine al_s rfl rfl rfl ?_ | (refine al_nil ?_; first | show AW _ _ _ _ _ _ | show ∃ x', _ < _ ∧ _)) | (show AW _ _ (.seq _ _) _ _ _; refine aw_seq' ?_; intro Q1) | (show AW _ _ (.region _ _ false) _ _ _; refine aw_regL' ?_; intro O1) | (show AW _ _ (.cond _ _ _) _ _ _; first | refine aw_if_t rfl ?_ | refine aw_if_f rfl ?_) | (show AW _ _ (.skip) _ _ _; refine aw_skip ?_; first | show AW _ _ _ _ _ _ | show ∃ x', _ < _ ∧ _) | (show AW _ _ (.block _ _) _ _ _; refine aw_block' ?_; intro Q1) | (show AW _ _ (.exit _) _ _ _; refine aw_exit ?_; first | show AW _ _ _ _ _ _ | show ∃ x', _ < _ ∧ _) | (show AW _ _ (.ret) _ _ _; refine aw_ret ?_; try dsimp only [thenA, inBlockA, jumpA, noGotoA])
    | (show DL _ _ _ _ _ _ _; refine dl_d rfl rfl (fun K kt kf => r_cmp hG rfl rfl rfl rfl rfl kt kf) (fun h => ?_) (fun h => ?_)) | (show DL _ _ _ _ _ _ _; refine dl_d rfl rfl (fun K kt kf => r_str hG rfl rfl rfl rfl kt kf) (fun h => ?_) (fun h => ?_)) | (show DL _ _ _ _ _ _ _; refine dl_ne rfl rfl (fun K kt kf => r_strn hG rfl rfl rfl rfl kt kf) (fun h => ?_) (fun h => ?_))
    | (show DL _ _ _ _ _ _ _; refine dl_s rfl rfl rfl ?_) | (show DL _ _ _ _ _ _ _; refine dl_nil ?_; first | show AW _ _ _ _ _ _ | show ∃ x', _ < _ ∧ _) | (show AW _ _ (.region _ _ true) _ _ _; refine aw_draw' mix (by kernel_rfl) ?_; intro O1) | fail)
  refine aw_loop (X := MSX a) (fun x => [(0, cT a), (3, .int .i64 x.i)]) (fun x => ⟨[], [], off, none⟩) (fun x => a.length - x.i) ⟨1, by omega, fun j h1 h2 => by omega⟩ ?_ (.refl _) ?_
  · exact .cons rfl (.consW rfl (.int rfl) (.nil _))
  rintro ⟨i, hi, hp⟩
  dsimp only
  obtain ⟨i, rfl⟩ : ∃ j, i = j + 1 := ⟨i - 1, by omega⟩
  by_cases hib : i + 1 < a.length
  · have e : (((i + 1 : Nat) : Int) - 1).toNat = i := by omega
    repeat' (first
    | ((first | (show AL _ _ _ _ _ _ _ _; refine al_cons rfl ?_) | (show DL _ _ _ _ _ _ _; refine' dl_cons rfl rfl (fun K kk => ?_) ?_; try (show Go.Ts.T; rotate_left))); (first
      | (show AOp _ _ ⟨_, .move _, _, _, _, _⟩ _ _ _; refine r_move hG rfl rfl ?_)
      | (show AOp _ _ ⟨_, .assign _, _, _, _, _⟩ _ _ _; refine r_asg hG rfl rfl ?_)
      | (show AOp _ _ ⟨_, .call ⟨.builtin .len, _, _⟩, _, _, _, _⟩ _ _ _; first | refine r_lenm hG rfl rfl rfl rfl ?_ | refine r_len hG rfl rfl rfl rfl rfl ?_)
      | (show AOp _ _ ⟨_, .binOp .add _ _ _ _, _, _, _, _⟩ _ _ _; first | refine r_ari64 hG rfl rfl rfl rfl rfl (by omega) ?_ | refine r_aru64 hG rfl rfl rfl rfl rfl (by omega) ?_ | refine r_aru8 hG rfl rfl rfl rfl rfl (by omega) ?_ | refine r_aru16 hG rfl rfl rfl rfl rfl (by omega) ?_)
      | (show AOp _ _ ⟨_, .binOp .sub _ _ _ _, _, _, _, _⟩ _ _ _; first | refine r_ari64 hG rfl rfl rfl rfl rfl (by omega) ?_ | refine r_aru64 hG rfl rfl rfl rfl rfl (by omega) ?_ | refine r_aru8 hG rfl rfl rfl rfl rfl (by omega) ?_ | refine r_aru16 hG rfl rfl rfl rfl rfl (by omega) ?_)
      | (show AOp _ _ ⟨_, .binOp _ _ _ _ _, _, _, _, _⟩ _ _ _; first | refine r_cmpT hG rfl rfl rfl rfl rfl (by omega) ?_ | refine r_cmpF hG rfl rfl rfl rfl rfl (by omega) ?_ | refine r_strT hG rfl rfl rfl rfl (by first | rfl | assumption) ?_ | refine r_strnF hG rfl rfl rfl rfl (by first | rfl | assumption) ?_ | refine r_strF hG rfl rfl rfl rfl (by assumption) ?_ | refine r_strnT hG rfl rfl rfl rfl (by assumption) ?_ | ((fail_if_success have := kk); refine r_cmp hG rfl rfl rfl rfl rfl (fun h => ?_) (fun h => ?_)) | ((fail_if_success have := kk); first | refine r_str hG rfl rfl rfl rfl (fun h => ?_) (fun h => ?_) | refine r_strn hG rfl rfl rfl rfl (fun h => ?_) (fun h => ?_)) | refine r_beq hG rfl rfl rfl rfl rfl ?_ | refine r_bin' hG rfl rfl rfl ?_)
      | (show AOp _ _ ⟨_, .load _ _, _, _, _, _⟩ _ _ _; first | refine r_ldro hG rfl rfl rfl ?_ | refine r_ld 0 hG rfl rfl rfl rfl ?_ | refine r_ld 1 hG rfl rfl rfl rfl ?_ | refine r_ld 2 hG rfl rfl rfl rfl ?_ | refine r_ld 3 hG rfl rfl rfl rfl ?_)
      | (show AOp _ _ ⟨_, .indexAddr _ _ _, _, _, _, _⟩ _ _ _; first | refine r_idx0 hG rfl rfl rfl rfl rfl rfl rfl ?_ | refine r_idxn hG rfl rfl rfl rfl rfl rfl rfl (by omega) ?_ | refine r_idxm hG rfl rfl rfl rfl rfl rfl rfl (by omega) ?_ | refine r_idx hG rfl rfl ?_)
      | refine r_q hG rfl rfl rfl ?_); try exact kk)
    | (show AL _ _ _ _ _ _ _ _; first | refine al_s rfl rfl rfl ?_ | (refine al_nil ?_; first | show AW _ _ _ _ _ _ | show ∃ x', _ < _ ∧ _)) | (show AW _ _ (.seq _ _) _ _ _; refine aw_seq' ?_; intro Q1) | (show AW _ _ (.region _ _ false) _ _ _; refine aw_regL' ?_; intro O1) | (show AW _ _ (.cond _ _ _) _ _ _; first | refine aw_if_t rfl ?_ | refine aw_if_f rfl ?_) | (show AW _ _ (.skip) _ _ _; refine aw_skip ?_; first | show AW _ _ _ _ _ _ | show ∃ x', _ < _ ∧ _) | (show AW _ _ (.block _ _) _ _ _; refine aw_block' ?_; intro Q1) | (show AW _ _ (.exit _) _ _ _; refine aw_exit ?_; first | show AW _ _ _ _ _ _ | show ∃ x', _ < _ ∧ _) | (show AW _ _ (.ret) _ _ _; refine aw_ret ?_; try dsimp only [thenA, inBlockA, jumpA, noGotoA])
    | (show DL _ _ _ _ _ _ _; refine dl_d rfl rfl (fun K kt kf => r_cmp hG rfl rfl rfl rfl rfl kt kf) (fun h => ?_) (fun h => ?_)) | (show DL _ _ _ _ _ _ _; refine dl_d rfl rfl (fun K kt kf => r_str hG rfl rfl rfl rfl kt kf) (fun h => ?_) (fun h => ?_)) | (show DL _ _ _ _ _ _ _; refine dl_ne rfl rfl (fun K kt kf => r_strn hG rfl rfl rfl rfl kt kf) (fun h => ?_) (fun h => ?_))
    | (show DL _ _ _ _ _ _ _; refine dl_s rfl rfl rfl ?_) | (show DL _ _ _ _ _ _ _; refine dl_nil ?_; first | show AW _ _ _ _ _ _ | show ∃ x', _ < _ ∧ _) | (show AW _ _ (.region _ _ true) _ _ _; refine aw_draw' mix (by kernel_rfl) ?_; intro O1) | fail)
    · rw [e] at h
      refine ret_pure (res_tmp rfl res_nil) (.eq ?_) rfl
      have : risesB a = false := Bool.eq_false_iff.2 fun hr => by
        have := (rises_adj a).1 hr i hib
        rw [UInt16.lt_iff_toNat_lt] at this; omega
      rw [mayC, this, Bool.and_false]; rfl
    · rw [e] at h
      refine ⟨⟨i + 2, by omega, fun j h1 h2 => ?_⟩, by dsimp only; omega, ?_, .refl _⟩
      · by_cases hj : j + 1 < i + 1
        · exact hp j hj h2
        · obtain rfl : j = i := by omega
          rw [UInt16.lt_iff_toNat_lt]; omega
      · exact .cons rfl (.consW rfl (.int (by simp; omega)) (.nil _))
  · have : risesB a = true := (rises_adj a).2 fun j hj => hp j (by omega) hj
    by_cases h16 : a.length ≤ 16
    · repeat' (first
    | ((first | (show AL _ _ _ _ _ _ _ _; refine al_cons rfl ?_) | (show DL _ _ _ _ _ _ _; refine' dl_cons rfl rfl (fun K kk => ?_) ?_; try (show Go.Ts.T; rotate_left))); (first
      | (show AOp _ _ ⟨_, .move _, _, _, _, _⟩ _ _ _; refine r_move hG rfl rfl ?_)
      | (show AOp _ _ ⟨_, .assign _, _, _, _, _⟩ _ _ _; refine r_asg hG rfl rfl ?_)
      | (show AOp _ _ ⟨_, .call ⟨.builtin .len, _, _⟩, _, _, _, _⟩ _ _ _; first | refine r_lenm hG rfl rfl rfl rfl ?_ | refine r_len hG rfl rfl rfl rfl rfl ?_)
      | (show AOp _ _ ⟨_, .binOp .add _ _ _ _, _, _, _, _⟩ _ _ _; first | refine r_ari64 hG rfl rfl rfl rfl rfl (by omega) ?_ | refine r_aru64 hG rfl rfl rfl rfl rfl (by omega) ?_ | refine r_aru8 hG rfl rfl rfl rfl rfl (by omega) ?_ | refine r_aru16 hG rfl rfl rfl rfl rfl (by omega) ?_)
      | (show AOp _ _ ⟨_, .binOp .sub _ _ _ _, _, _, _, _⟩ _ _ _; first | refine r_ari64 hG rfl rfl rfl rfl rfl (by omega) ?_ | refine r_aru64 hG rfl rfl rfl rfl rfl (by omega) ?_ | refine r_aru8 hG rfl rfl rfl rfl rfl (by omega) ?_ | refine r_aru16 hG rfl rfl rfl rfl rfl (by omega) ?_)
      | (show AOp _ _ ⟨_, .binOp _ _ _ _ _, _, _, _, _⟩ _ _ _; first | refine r_cmpT hG rfl rfl rfl rfl rfl (by omega) ?_ | refine r_cmpF hG rfl rfl rfl rfl rfl (by omega) ?_ | refine r_strT hG rfl rfl rfl rfl (by first | rfl | assumption) ?_ | refine r_strnF hG rfl rfl rfl rfl (by first | rfl | assumption) ?_ | refine r_strF hG rfl rfl rfl rfl (by assumption) ?_ | refine r_strnT hG rfl rfl rfl rfl (by assumption) ?_ | ((fail_if_success have := kk); refine r_cmp hG rfl rfl rfl rfl rfl (fun h => ?_) (fun h => ?_)) | ((fail_if_success have := kk); first | refine r_str hG rfl rfl rfl rfl (fun h => ?_) (fun h => ?_) | refine r_strn hG rfl rfl rfl rfl (fun h => ?_) (fun h => ?_)) | refine r_beq hG rfl rfl rfl rfl rfl ?_ | refine r_bin' hG rfl rfl rfl ?_)
      | (show AOp _ _ ⟨_, .load _ _, _, _, _, _⟩ _ _ _; first | refine r_ldro hG rfl rfl rfl ?_ | refine r_ld 0 hG rfl rfl rfl rfl ?_ | refine r_ld 1 hG rfl rfl rfl rfl ?_ | refine r_ld 2 hG rfl rfl rfl rfl ?_ | refine r_ld 3 hG rfl rfl rfl rfl ?_)
      | (show AOp _ _ ⟨_, .indexAddr _ _ _, _, _, _, _⟩ _ _ _; first | refine r_idx0 hG rfl rfl rfl rfl rfl rfl rfl ?_ | refine r_idxn hG rfl rfl rfl rfl rfl rfl rfl (by omega) ?_ | refine r_idxm hG rfl rfl rfl rfl rfl rfl rfl (by omega) ?_ | refine r_idx hG rfl rfl ?_)
      | refine r_q hG rfl rfl rfl ?_); try exact kk)
    | (show AL _ _ _ _ _ _ _ _; first | refine al_s rfl rfl rfl ?_ | (refine al_nil ?_; first | show AW _ _ _ _ _ _ | show ∃ x', _ < _ ∧ _)) | (show AW _ _ (.seq _ _) _ _ _; refine aw_seq' ?_; intro Q1) | (show AW _ _ (.region _ _ false) _ _ _; refine aw_regL' ?_; intro O1) | (show AW _ _ (.cond _ _ _) _ _ _; first | refine aw_if_t rfl ?_ | refine aw_if_f rfl ?_) | (show AW _ _ (.skip) _ _ _; refine aw_skip ?_; first | show AW _ _ _ _ _ _ | show ∃ x', _ < _ ∧ _) | (show AW _ _ (.block _ _) _ _ _; refine aw_block' ?_; intro Q1) | (show AW _ _ (.exit _) _ _ _; refine aw_exit ?_; first | show AW _ _ _ _ _ _ | show ∃ x', _ < _ ∧ _) | (show AW _ _ (.ret) _ _ _; refine aw_ret ?_; try dsimp only [thenA, inBlockA, jumpA, noGotoA])
    | (show DL _ _ _ _ _ _ _; refine dl_d rfl rfl (fun K kt kf => r_cmp hG rfl rfl rfl rfl rfl kt kf) (fun h => ?_) (fun h => ?_)) | (show DL _ _ _ _ _ _ _; refine dl_d rfl rfl (fun K kt kf => r_str hG rfl rfl rfl rfl kt kf) (fun h => ?_) (fun h => ?_)) | (show DL _ _ _ _ _ _ _; refine dl_ne rfl rfl (fun K kt kf => r_strn hG rfl rfl rfl rfl kt kf) (fun h => ?_) (fun h => ?_))
    | (show DL _ _ _ _ _ _ _; refine dl_s rfl rfl rfl ?_) | (show DL _ _ _ _ _ _ _; refine dl_nil ?_; first | show AW _ _ _ _ _ _ | show ∃ x', _ < _ ∧ _) | (show AW _ _ (.region _ _ true) _ _ _; refine aw_draw' mix (by kernel_rfl) ?_; intro O1) | fail)
      refine ret_pure (res_tmp rfl res_nil) (.eq ?_) rfl
      rw [mayC, this, Bool.and_true, decide_eq_true h16]; rfl
    · repeat' (first
    | ((first | (show AL _ _ _ _ _ _ _ _; refine al_cons rfl ?_) | (show DL _ _ _ _ _ _ _; refine' dl_cons rfl rfl (fun K kk => ?_) ?_; try (show Go.Ts.T; rotate_left))); (first
      | (show AOp _ _ ⟨_, .move _, _, _, _, _⟩ _ _ _; refine r_move hG rfl rfl ?_)
      | (show AOp _ _ ⟨_, .assign _, _, _, _, _⟩ _ _ _; refine r_asg hG rfl rfl ?_)
      | (show AOp _ _ ⟨_, .call ⟨.builtin .len, _, _⟩, _, _, _, _⟩ _ _ _; first | refine r_lenm hG rfl rfl rfl rfl ?_ | refine r_len hG rfl rfl rfl rfl rfl ?_)
      | (show AOp _ _ ⟨_, .binOp .add _ _ _ _, _, _, _, _⟩ _ _ _; first | refine r_ari64 hG rfl rfl rfl rfl rfl (by omega) ?_ | refine r_aru64 hG rfl rfl rfl rfl rfl (by omega) ?_ | refine r_aru8 hG rfl rfl rfl rfl rfl (by omega) ?_ | refine r_aru16 hG rfl rfl rfl rfl rfl (by omega) ?_)
      | (show AOp _ _ ⟨_, .binOp .sub _ _ _ _, _, _, _, _⟩ _ _ _; first | refine r_ari64 hG rfl rfl rfl rfl rfl (by omega) ?_ | refine r_aru64 hG rfl rfl rfl rfl rfl (by omega) ?_ | refine r_aru8 hG rfl rfl rfl rfl rfl (by omega) ?_ | refine r_aru16 hG rfl rfl rfl rfl rfl (by omega) ?_)
      | (show AOp _ _ ⟨_, .binOp _ _ _ _ _, _, _, _, _⟩ _ _ _; first | refine r_cmpT hG rfl rfl rfl rfl rfl (by omega) ?_ | refine r_cmpF hG rfl rfl rfl rfl rfl (by omega) ?_ | refine r_strT hG rfl rfl rfl rfl (by first | rfl | assumption) ?_ | refine r_strnF hG rfl rfl rfl rfl (by first | rfl | assumption) ?_ | refine r_strF hG rfl rfl rfl rfl (by assumption) ?_ | refine r_strnT hG rfl rfl rfl rfl (by assumption) ?_ | ((fail_if_success have := kk); refine r_cmp hG rfl rfl rfl rfl rfl (fun h => ?_) (fun h => ?_)) | ((fail_if_success have := kk); first | refine r_str hG rfl rfl rfl rfl (fun h => ?_) (fun h => ?_) | refine r_strn hG rfl rfl rfl rfl (fun h => ?_) (fun h => ?_)) | refine r_beq hG rfl rfl rfl rfl rfl ?_ | refine r_bin' hG rfl rfl rfl ?_)
      | (show AOp _ _ ⟨_, .load _ _, _, _, _, _⟩ _ _ _; first | refine r_ldro hG rfl rfl rfl ?_ | refine r_ld 0 hG rfl rfl rfl rfl ?_ | refine r_ld 1 hG rfl rfl rfl rfl ?_ | refine r_ld 2 hG rfl rfl rfl rfl ?_ | refine r_ld 3 hG rfl rfl rfl rfl ?_)
      | (show AOp _ _ ⟨_, .indexAddr _ _ _, _, _, _, _⟩ _ _ _; first | refine r_idx0 hG rfl rfl rfl rfl rfl rfl rfl ?_ | refine r_idxn hG rfl rfl rfl rfl rfl rfl rfl (by omega) ?_ | refine r_idxm hG rfl rfl rfl rfl rfl rfl rfl (by omega) ?_ | refine r_idx hG rfl rfl ?_)
      | refine r_q hG rfl rfl rfl ?_); try exact kk)
    | (show AL _ _ _ _ _ _ _ _; first | refine al_s rfl rfl rfl ?_ | (refine al_nil ?_; first | show AW _ _ _ _ _ _ | show ∃ x', _ < _ ∧ _)) | (show AW _ _ (.seq _ _) _ _ _; refine aw_seq' ?_; intro Q1) | (show AW _ _ (.region _ _ false) _ _ _; refine aw_regL' ?_; intro O1) | (show AW _ _ (.cond _ _ _) _ _ _; first | refine aw_if_t rfl ?_ | refine aw_if_f rfl ?_) | (show AW _ _ (.skip) _ _ _; refine aw_skip ?_; first | show AW _ _ _ _ _ _ | show ∃ x', _ < _ ∧ _) | (show AW _ _ (.block _ _) _ _ _; refine aw_block' ?_; intro Q1) | (show AW _ _ (.exit _) _ _ _; refine aw_exit ?_; first | show AW _ _ _ _ _ _ | show ∃ x', _ < _ ∧ _) | (show AW _ _ (.ret) _ _ _; refine aw_ret ?_; try dsimp only [thenA, inBlockA, jumpA, noGotoA])
    | (show DL _ _ _ _ _ _ _; refine dl_d rfl rfl (fun K kt kf => r_cmp hG rfl rfl rfl rfl rfl kt kf) (fun h => ?_) (fun h => ?_)) | (show DL _ _ _ _ _ _ _; refine dl_d rfl rfl (fun K kt kf => r_str hG rfl rfl rfl rfl kt kf) (fun h => ?_) (fun h => ?_)) | (show DL _ _ _ _ _ _ _; refine dl_ne rfl rfl (fun K kt kf => r_strn hG rfl rfl rfl rfl kt kf) (fun h => ?_) (fun h => ?_))
    | (show DL _ _ _ _ _ _ _; refine dl_s rfl rfl rfl ?_) | (show DL _ _ _ _ _ _ _; refine dl_nil ?_; first | show AW _ _ _ _ _ _ | show ∃ x', _ < _ ∧ _) | (show AW _ _ (.region _ _ true) _ _ _; refine aw_draw' mix (by kernel_rfl) ?_; intro O1) | fail)
      refine ret_pure (res_tmp rfl res_nil) (.eq ?_) rfl
      rw [mayC, decide_eq_false h16]; rfl

/-- Where it goes. -/
theorem ins_at {x : UInt16} : ∀ (l : List UInt16) (n : Nat), n ≤ l.length → (∀ j, j < n → l.getD j default < x) → (n < l.length → ¬ l.getD n default < x) →
    ins x l = if n < l.length ∧ l.getD n default = x then l else l.take n ++ x :: l.drop n
  | [], n, hn, _, _ => by
    have : n = 0 := by simpa using hn
    subst this; simp [ins]
  | y :: l, 0, _, _, h => by
    have h0 : ¬ y < x := by simpa using h (by simp)
    rw [ins]
    by_cases h1 : x < y
    · rw [if_pos h1, if_neg (by simp; exact fun e => lt_irrefl x (e ▸ h1 : x < x))]; rfl
    · have : x = y := by rcases lt_or (x := x) (y := y) with h | h | h
                         · exact absurd h h1
                         · exact h
                         · exact absurd h h0
      subst this
      rw [if_neg h1, if_pos rfl, if_pos (by simp)]
  | y :: l, n + 1, hn, hb, h => by
    have h0 : y < x := by simpa using hb 0 (by omega)
    rw [ins, if_neg (lt_asymm h0), if_neg (fun e => lt_irrefl x (by rw [e] at h0 ⊢; exact (e ▸ h0))),
      ins_at l n (by simpa using hn) (fun j hj => by simpa using hb (j + 1) (by omega)) (fun hj => by simpa using h (by simpa using hj))]
    by_cases hc : n < l.length ∧ l.getD n default = x
    · rw [if_pos hc, if_pos (by simpa using hc)]
    · rw [if_neg hc, if_neg (by simpa using hc)]; rfl
theorem mk_snoc (l : List UInt16) (x : UInt16) : mk (l ++ [x]) = ins x (mk l) := by simp [mk, List.foldl_append]

structure MkX (a : List UInt16) where
  i : Nat
  k : Nat
  hi : i ≤ a.length
structure MkY (l : List UInt16) (x : UInt16) where
  n : Nat
  hn : n ≤ l.length
  hb : ∀ j, j < n → l.getD j default < x
set_option maxHeartbeats 800000 in
theorem ref_Make {x : T} {a : List UInt16} (hx : catsT x = some a) (hl : a.length ≤ 4294967000) : Owns Try.prog 20 [x] 1 ((mk a).map hT) := by
  refine Owns.weak (us := [cT a]) ?_ (wk1 (catsT_wk hx))
  intro off
  refine acalls_mk (N := 60) (rs := [.tmp 2]) hG Try.func20 rfl rfl rfl rfl rfl ?_
  repeat' (first
    | ((first | (show AL _ _ _ _ _ _ _ _; refine al_cons rfl ?_) | (show DL _ _ _ _ _ _ _; refine' dl_cons rfl rfl (fun K kk => ?_) ?_; try (show Go.Ts.T; rotate_left))); (first
      | (show AOp _ _ ⟨_, .move _, _, _, _, _⟩ _ _ _; refine r_move hG rfl rfl ?_)
      | (show AOp _ _ ⟨_, .assign _, _, _, _, _⟩ _ _ _; refine r_asg hG rfl rfl ?_)
      | (show AOp _ _ ⟨_, .call ⟨.builtin .len, _, _⟩, _, _, _, _⟩ _ _ _; first | refine r_lenm hG rfl rfl rfl rfl ?_ | refine r_len hG rfl rfl rfl rfl rfl ?_)
      | (show AOp _ _ ⟨_, .binOp .add _ _ _ _, _, _, _, _⟩ _ _ _; first | refine r_ari64 hG rfl rfl rfl rfl rfl (by omega) ?_ | refine r_aru64 hG rfl rfl rfl rfl rfl (by omega) ?_ | refine r_aru8 hG rfl rfl rfl rfl rfl (by omega) ?_ | refine r_aru16 hG rfl rfl rfl rfl rfl (by omega) ?_)
      | (show AOp _ _ ⟨_, .binOp _ _ _ _ _, _, _, _, _⟩ _ _ _; first | refine r_cmpT hG rfl rfl rfl rfl rfl (by omega) ?_ | refine r_cmpF hG rfl rfl rfl rfl rfl (by omega) ?_ | refine r_strT hG rfl rfl rfl rfl (by first | rfl | assumption) ?_ | refine r_strnF hG rfl rfl rfl rfl (by first | rfl | assumption) ?_ | refine r_strF hG rfl rfl rfl rfl (by assumption) ?_ | refine r_strnT hG rfl rfl rfl rfl (by assumption) ?_ | ((fail_if_success have := kk); refine r_cmp hG rfl rfl rfl rfl rfl (fun h => ?_) (fun h => ?_)) | ((fail_if_success have := kk); first | refine r_str hG rfl rfl rfl rfl (fun h => ?_) (fun h => ?_) | refine r_strn hG rfl rfl rfl rfl (fun h => ?_) (fun h => ?_)) | refine r_beq hG rfl rfl rfl rfl rfl ?_ | refine r_bin' hG rfl rfl rfl ?_)
      | (show AOp _ _ ⟨_, .load _ _, _, _, _, _⟩ _ _ _; first | refine r_ldro hG rfl rfl rfl ?_ | refine r_ld 0 hG rfl rfl rfl rfl ?_ | refine r_ld 1 hG rfl rfl rfl rfl ?_ | refine r_ld 2 hG rfl rfl rfl rfl ?_ | refine r_ld 3 hG rfl rfl rfl rfl ?_)
      | (show AOp _ _ ⟨_, .indexAddr _ _ _, _, _, _, _⟩ _ _ _; first | refine r_idx0 hG rfl rfl rfl rfl rfl rfl rfl ?_ | refine r_idxn hG rfl rfl rfl rfl rfl rfl rfl (by omega) ?_ | refine r_idxm hG rfl rfl rfl rfl rfl rfl rfl (by omega) ?_ | refine r_idx hG rfl rfl ?_)
      | (show AOp _ _ ⟨_, .slice _ _ _ _ _, _, _, _, _⟩ _ _ _; first | refine r_sl_lon hG rfl rfl rfl rfl rfl rfl rfl (by omega) ?_ | refine r_sl_hin hG rfl rfl rfl rfl rfl rfl rfl (by omega) ?_ | refine r_sl_lhn hG rfl rfl rfl rfl rfl rfl rfl rfl (by omega) ?_ | refine r_sl_lo hG rfl rfl rfl rfl rfl rfl rfl (by omega) ?_ | refine r_sl_hi hG rfl rfl rfl rfl rfl rfl rfl (by omega) ?_ | refine r_sl_lh hG rfl rfl rfl rfl rfl rfl rfl rfl (by omega) ?_ | refine op_cut0 hG rfl rfl rfl rfl rfl rfl rfl rfl rfl rfl ?_ | refine r_sl hG rfl rfl ?_)
      | (show AOp _ _ ⟨_, .pick _ _ _, _, _, _, _⟩ _ _ _; refine r_pick hG rfl rfl rfl ?_)
      | (show AOp _ _ ⟨_, .buildSlice _ _ _, _, _, _, _⟩ _ _ _; first | refine r_mk (sz := 1) hG rfl rfl rfl rfl rfl rfl rfl ?_ | refine r_mk (sz := 2) hG rfl rfl rfl rfl rfl rfl rfl ?_)
      | (show AOp _ _ ⟨_, .call ⟨.builtin .append, _, _⟩, _, _, _, _⟩ _ _ _; first | refine r_app0m (sz := 1) (xs := []) hG rfl rfl rfl rfl rfl rfl rfl ⟨_, rfl⟩ rfl rfl rfl rfl rfl rfl rfl (by first | omega | (simp; omega)) (fun k => ?_) | refine r_appm 0 hG rfl rfl rfl rfl rfl rfl rfl ⟨_, rfl⟩ rfl rfl rfl rfl rfl (by first | omega | (simp only [List.length_append, List.length_cons, List.length_nil]; omega)) (fun k => ?_) | fail)
      | refine r_q hG rfl rfl rfl ?_); try exact kk)
    | (show AL _ _ _ _ _ _ _ _; first | refine al_s rfl rfl rfl ?_ | (refine al_nil ?_; first | show AW _ _ _ _ _ _ | show ∃ x', _ < _ ∧ _)) | (show AW _ _ (.seq _ _) _ _ _; refine aw_seq' ?_; intro Q1) | (show AW _ _ (.region _ _ false) _ _ _; refine aw_regL' ?_; intro O1) | (show AW _ _ (.cond _ _ _) _ _ _; first | refine aw_if_t rfl ?_ | refine aw_if_f rfl ?_) | (show AW _ _ (.skip) _ _ _; refine aw_skip ?_; first | show AW _ _ _ _ _ _ | show ∃ x', _ < _ ∧ _) | (show AW _ _ (.block _ _) _ _ _; refine aw_block' ?_; intro Q1) | (show AW _ _ (.exit _) _ _ _; refine aw_exit ?_; first | show AW _ _ _ _ _ _ | show ∃ x', _ < _ ∧ _) | (show AW _ _ (.ret) _ _ _; refine aw_ret ?_; try dsimp only [thenA, inBlockA, jumpA, noGotoA])
    | (show DL _ _ _ _ _ _ _; refine dl_d rfl rfl (fun K kt kf => r_cmp hG rfl rfl rfl rfl rfl kt kf) (fun h => ?_) (fun h => ?_)) | (show DL _ _ _ _ _ _ _; refine dl_d rfl rfl (fun K kt kf => r_str hG rfl rfl rfl rfl kt kf) (fun h => ?_) (fun h => ?_)) | (show DL _ _ _ _ _ _ _; refine dl_ne rfl rfl (fun K kt kf => r_strn hG rfl rfl rfl rfl kt kf) (fun h => ?_) (fun h => ?_))
    | (show DL _ _ _ _ _ _ _; refine dl_s rfl rfl rfl ?_) | (show DL _ _ _ _ _ _ _; refine dl_nil ?_; first | show AW _ _ _ _ _ _ | show ∃ x', _ < _ ∧ _) | (show AW _ _ (.region _ _ true) _ _ _; refine aw_draw' mix (by kernel_rfl) ?_; intro O1) | fail)
  refine aw_tok0 3 1 rfl rfl rfl rfl (fun k => ?_)
  refine aw_loop (X := MkX a) (fun x => [(0, cT a), (4, .int .i64 x.i), (3, .sl 1 (.tok x.k) ((mk (a.take x.i)).map hT))]) (fun x => ⟨[], [x.k], off, none⟩) (fun x => a.length - x.i) ⟨0, k, Nat.zero_le _⟩ ?_ (.refl _) ?_
  · exact .cons rfl (.consW rfl (.int rfl) (.consW rfl (.eq (by simp [mk])) (.nil _)))
  rintro ⟨i, k, hi⟩
  dsimp only
  by_cases hib : i < a.length
  · have hml := mk_length_le (a.take i)
    have htl : (a.take i).length = i := by rw [List.length_take]; omega
    have hnew : mk (a.take (i + 1)) = ins (a.getD i default) (mk (a.take i)) := by rw [take_getD a i hib, mk_snoc]
    generalize hm : mk (a.take i) = m at *
    repeat' (first
    | ((first | (show AL _ _ _ _ _ _ _ _; refine al_cons rfl ?_) | (show DL _ _ _ _ _ _ _; refine' dl_cons rfl rfl (fun K kk => ?_) ?_; try (show Go.Ts.T; rotate_left))); (first
      | (show AOp _ _ ⟨_, .move _, _, _, _, _⟩ _ _ _; refine r_move hG rfl rfl ?_)
      | (show AOp _ _ ⟨_, .assign _, _, _, _, _⟩ _ _ _; refine r_asg hG rfl rfl ?_)
      | (show AOp _ _ ⟨_, .call ⟨.builtin .len, _, _⟩, _, _, _, _⟩ _ _ _; first | refine r_lenm hG rfl rfl rfl rfl ?_ | refine r_len hG rfl rfl rfl rfl rfl ?_)
      | (show AOp _ _ ⟨_, .binOp .add _ _ _ _, _, _, _, _⟩ _ _ _; first | refine r_ari64 hG rfl rfl rfl rfl rfl (by omega) ?_ | refine r_aru64 hG rfl rfl rfl rfl rfl (by omega) ?_ | refine r_aru8 hG rfl rfl rfl rfl rfl (by omega) ?_ | refine r_aru16 hG rfl rfl rfl rfl rfl (by omega) ?_)
      | (show AOp _ _ ⟨_, .binOp _ _ _ _ _, _, _, _, _⟩ _ _ _; first | refine r_cmpT hG rfl rfl rfl rfl rfl (by omega) ?_ | refine r_cmpF hG rfl rfl rfl rfl rfl (by omega) ?_ | refine r_strT hG rfl rfl rfl rfl (by first | rfl | assumption) ?_ | refine r_strnF hG rfl rfl rfl rfl (by first | rfl | assumption) ?_ | refine r_strF hG rfl rfl rfl rfl (by assumption) ?_ | refine r_strnT hG rfl rfl rfl rfl (by assumption) ?_ | ((fail_if_success have := kk); refine r_cmp hG rfl rfl rfl rfl rfl (fun h => ?_) (fun h => ?_)) | ((fail_if_success have := kk); first | refine r_str hG rfl rfl rfl rfl (fun h => ?_) (fun h => ?_) | refine r_strn hG rfl rfl rfl rfl (fun h => ?_) (fun h => ?_)) | refine r_beq hG rfl rfl rfl rfl rfl ?_ | refine r_bin' hG rfl rfl rfl ?_)
      | (show AOp _ _ ⟨_, .load _ _, _, _, _, _⟩ _ _ _; first | refine r_ldro hG rfl rfl rfl ?_ | refine r_ld 0 hG rfl rfl rfl rfl ?_ | refine r_ld 1 hG rfl rfl rfl rfl ?_ | refine r_ld 2 hG rfl rfl rfl rfl ?_ | refine r_ld 3 hG rfl rfl rfl rfl ?_)
      | (show AOp _ _ ⟨_, .indexAddr _ _ _, _, _, _, _⟩ _ _ _; first | refine r_idx0 hG rfl rfl rfl rfl rfl rfl rfl ?_ | refine r_idxn hG rfl rfl rfl rfl rfl rfl rfl (by omega) ?_ | refine r_idxm hG rfl rfl rfl rfl rfl rfl rfl (by omega) ?_ | refine r_idx hG rfl rfl ?_)
      | (show AOp _ _ ⟨_, .slice _ _ _ _ _, _, _, _, _⟩ _ _ _; first | refine r_sl_lon hG rfl rfl rfl rfl rfl rfl rfl (by omega) ?_ | refine r_sl_hin hG rfl rfl rfl rfl rfl rfl rfl (by omega) ?_ | refine r_sl_lhn hG rfl rfl rfl rfl rfl rfl rfl rfl (by omega) ?_ | refine r_sl_lo hG rfl rfl rfl rfl rfl rfl rfl (by omega) ?_ | refine r_sl_hi hG rfl rfl rfl rfl rfl rfl rfl (by omega) ?_ | refine r_sl_lh hG rfl rfl rfl rfl rfl rfl rfl rfl (by omega) ?_ | refine op_cut0 hG rfl rfl rfl rfl rfl rfl rfl rfl rfl rfl ?_ | refine r_sl hG rfl rfl ?_)
      | (show AOp _ _ ⟨_, .pick _ _ _, _, _, _, _⟩ _ _ _; refine r_pick hG rfl rfl rfl ?_)
      | (show AOp _ _ ⟨_, .buildSlice _ _ _, _, _, _, _⟩ _ _ _; first | refine r_mk (sz := 1) hG rfl rfl rfl rfl rfl rfl rfl ?_ | refine r_mk (sz := 2) hG rfl rfl rfl rfl rfl rfl rfl ?_)
      | (show AOp _ _ ⟨_, .call ⟨.builtin .append, _, _⟩, _, _, _, _⟩ _ _ _; first | refine r_app0m (sz := 1) (xs := []) hG rfl rfl rfl rfl rfl rfl rfl ⟨_, rfl⟩ rfl rfl rfl rfl rfl rfl rfl (by first | omega | (simp; omega)) (fun k => ?_) | refine r_appm 0 hG rfl rfl rfl rfl rfl rfl rfl ⟨_, rfl⟩ rfl rfl rfl rfl rfl (by first | omega | (simp only [List.length_append, List.length_cons, List.length_nil]; omega)) (fun k => ?_) | fail)
      | refine r_q hG rfl rfl rfl ?_); try exact kk)
    | (show AL _ _ _ _ _ _ _ _; first | refine al_s rfl rfl rfl ?_ | (refine al_nil ?_; first | show AW _ _ _ _ _ _ | show ∃ x', _ < _ ∧ _)) | (show AW _ _ (.seq _ _) _ _ _; refine aw_seq' ?_; intro Q1) | (show AW _ _ (.region _ _ false) _ _ _; refine aw_regL' ?_; intro O1) | (show AW _ _ (.cond _ _ _) _ _ _; first | refine aw_if_t rfl ?_ | refine aw_if_f rfl ?_) | (show AW _ _ (.skip) _ _ _; refine aw_skip ?_; first | show AW _ _ _ _ _ _ | show ∃ x', _ < _ ∧ _) | (show AW _ _ (.block _ _) _ _ _; refine aw_block' ?_; intro Q1) | (show AW _ _ (.exit _) _ _ _; refine aw_exit ?_; first | show AW _ _ _ _ _ _ | show ∃ x', _ < _ ∧ _) | (show AW _ _ (.ret) _ _ _; refine aw_ret ?_; try dsimp only [thenA, inBlockA, jumpA, noGotoA])
    | (show DL _ _ _ _ _ _ _; refine dl_d rfl rfl (fun K kt kf => r_cmp hG rfl rfl rfl rfl rfl kt kf) (fun h => ?_) (fun h => ?_)) | (show DL _ _ _ _ _ _ _; refine dl_d rfl rfl (fun K kt kf => r_str hG rfl rfl rfl rfl kt kf) (fun h => ?_) (fun h => ?_)) | (show DL _ _ _ _ _ _ _; refine dl_ne rfl rfl (fun K kt kf => r_strn hG rfl rfl rfl rfl kt kf) (fun h => ?_) (fun h => ?_))
    | (show DL _ _ _ _ _ _ _; refine dl_s rfl rfl rfl ?_) | (show DL _ _ _ _ _ _ _; refine dl_nil ?_; first | show AW _ _ _ _ _ _ | show ∃ x', _ < _ ∧ _) | (show AW _ _ (.region _ _ true) _ _ _; refine aw_draw' mix (by kernel_rfl) ?_; intro O1) | fail)
    refine aw_loop (X := MkY m (a.getD i default)) (fun x => [(0, cT a), (4, .int .i64 i), (3, .sl 1 (.tok k) (m.map hT)), (5, .int .i64 x.n)]) (fun x => ⟨[], [k], off, none⟩) (fun x => m.length - x.n) ⟨0, Nat.zero_le _, fun j hj => by omega⟩ ?_ (.refl _) ?_
    · exact .cons rfl (.cons rfl (.cons rfl (.consW rfl (.int rfl) (.nil _))))
    rintro ⟨n, hn, hb⟩
    dsimp only
    have htn : (m.take n).length = n := by rw [List.length_take]; omega
    have hdn : (m.drop n).length = m.length - n := List.length_drop
    by_cases hnm : n < m.length
    · by_cases hlt : (((m.getD n default).toNat : Int) < ((a.getD i default).toNat : Int))
      · repeat' (first
    | ((first | (show AL _ _ _ _ _ _ _ _; refine al_cons rfl ?_) | (show DL _ _ _ _ _ _ _; refine' dl_cons rfl rfl (fun K kk => ?_) ?_; try (show Go.Ts.T; rotate_left))); (first
      | (show AOp _ _ ⟨_, .move _, _, _, _, _⟩ _ _ _; refine r_move hG rfl rfl ?_)
      | (show AOp _ _ ⟨_, .assign _, _, _, _, _⟩ _ _ _; refine r_asg hG rfl rfl ?_)
      | (show AOp _ _ ⟨_, .call ⟨.builtin .len, _, _⟩, _, _, _, _⟩ _ _ _; first | refine r_lenm hG rfl rfl rfl rfl ?_ | refine r_len hG rfl rfl rfl rfl rfl ?_)
      | (show AOp _ _ ⟨_, .binOp .add _ _ _ _, _, _, _, _⟩ _ _ _; first | refine r_ari64 hG rfl rfl rfl rfl rfl (by omega) ?_ | refine r_aru64 hG rfl rfl rfl rfl rfl (by omega) ?_ | refine r_aru8 hG rfl rfl rfl rfl rfl (by omega) ?_ | refine r_aru16 hG rfl rfl rfl rfl rfl (by omega) ?_)
      | (show AOp _ _ ⟨_, .binOp _ _ _ _ _, _, _, _, _⟩ _ _ _; first | refine r_cmpT hG rfl rfl rfl rfl rfl (by omega) ?_ | refine r_cmpF hG rfl rfl rfl rfl rfl (by omega) ?_ | refine r_strT hG rfl rfl rfl rfl (by first | rfl | assumption) ?_ | refine r_strnF hG rfl rfl rfl rfl (by first | rfl | assumption) ?_ | refine r_strF hG rfl rfl rfl rfl (by assumption) ?_ | refine r_strnT hG rfl rfl rfl rfl (by assumption) ?_ | ((fail_if_success have := kk); refine r_cmp hG rfl rfl rfl rfl rfl (fun h => ?_) (fun h => ?_)) | ((fail_if_success have := kk); first | refine r_str hG rfl rfl rfl rfl (fun h => ?_) (fun h => ?_) | refine r_strn hG rfl rfl rfl rfl (fun h => ?_) (fun h => ?_)) | refine r_beq hG rfl rfl rfl rfl rfl ?_ | refine r_bin' hG rfl rfl rfl ?_)
      | (show AOp _ _ ⟨_, .load _ _, _, _, _, _⟩ _ _ _; first | refine r_ldro hG rfl rfl rfl ?_ | refine r_ld 0 hG rfl rfl rfl rfl ?_ | refine r_ld 1 hG rfl rfl rfl rfl ?_ | refine r_ld 2 hG rfl rfl rfl rfl ?_ | refine r_ld 3 hG rfl rfl rfl rfl ?_)
      | (show AOp _ _ ⟨_, .indexAddr _ _ _, _, _, _, _⟩ _ _ _; first | refine r_idx0 hG rfl rfl rfl rfl rfl rfl rfl ?_ | refine r_idxn hG rfl rfl rfl rfl rfl rfl rfl (by omega) ?_ | refine r_idxm hG rfl rfl rfl rfl rfl rfl rfl (by omega) ?_ | refine r_idx hG rfl rfl ?_)
      | (show AOp _ _ ⟨_, .slice _ _ _ _ _, _, _, _, _⟩ _ _ _; first | refine r_sl_lon hG rfl rfl rfl rfl rfl rfl rfl (by omega) ?_ | refine r_sl_hin hG rfl rfl rfl rfl rfl rfl rfl (by omega) ?_ | refine r_sl_lhn hG rfl rfl rfl rfl rfl rfl rfl rfl (by omega) ?_ | refine r_sl_lo hG rfl rfl rfl rfl rfl rfl rfl (by omega) ?_ | refine r_sl_hi hG rfl rfl rfl rfl rfl rfl rfl (by omega) ?_ | refine r_sl_lh hG rfl rfl rfl rfl rfl rfl rfl rfl (by omega) ?_ | refine op_cut0 hG rfl rfl rfl rfl rfl rfl rfl rfl rfl rfl ?_ | refine r_sl hG rfl rfl ?_)
      | (show AOp _ _ ⟨_, .pick _ _ _, _, _, _, _⟩ _ _ _; refine r_pick hG rfl rfl rfl ?_)
      | (show AOp _ _ ⟨_, .buildSlice _ _ _, _, _, _, _⟩ _ _ _; first | refine r_mk (sz := 1) hG rfl rfl rfl rfl rfl rfl rfl ?_ | refine r_mk (sz := 2) hG rfl rfl rfl rfl rfl rfl rfl ?_)
      | (show AOp _ _ ⟨_, .call ⟨.builtin .append, _, _⟩, _, _, _, _⟩ _ _ _; first | refine r_app0m (sz := 1) (xs := []) hG rfl rfl rfl rfl rfl rfl rfl ⟨_, rfl⟩ rfl rfl rfl rfl rfl rfl rfl (by first | omega | (simp; omega)) (fun k => ?_) | refine r_appm 0 hG rfl rfl rfl rfl rfl rfl rfl ⟨_, rfl⟩ rfl rfl rfl rfl rfl (by first | omega | (simp only [List.length_append, List.length_cons, List.length_nil]; omega)) (fun k => ?_) | fail)
      | refine r_q hG rfl rfl rfl ?_); try exact kk)
    | (show AL _ _ _ _ _ _ _ _; first | refine al_s rfl rfl rfl ?_ | (refine al_nil ?_; first | show AW _ _ _ _ _ _ | show ∃ x', _ < _ ∧ _)) | (show AW _ _ (.seq _ _) _ _ _; refine aw_seq' ?_; intro Q1) | (show AW _ _ (.region _ _ false) _ _ _; refine aw_regL' ?_; intro O1) | (show AW _ _ (.cond _ _ _) _ _ _; first | refine aw_if_t rfl ?_ | refine aw_if_f rfl ?_) | (show AW _ _ (.skip) _ _ _; refine aw_skip ?_; first | show AW _ _ _ _ _ _ | show ∃ x', _ < _ ∧ _) | (show AW _ _ (.block _ _) _ _ _; refine aw_block' ?_; intro Q1) | (show AW _ _ (.exit _) _ _ _; refine aw_exit ?_; first | show AW _ _ _ _ _ _ | show ∃ x', _ < _ ∧ _) | (show AW _ _ (.ret) _ _ _; refine aw_ret ?_; try dsimp only [thenA, inBlockA, jumpA, noGotoA])
    | (show DL _ _ _ _ _ _ _; refine dl_d rfl rfl (fun K kt kf => r_cmp hG rfl rfl rfl rfl rfl kt kf) (fun h => ?_) (fun h => ?_)) | (show DL _ _ _ _ _ _ _; refine dl_d rfl rfl (fun K kt kf => r_str hG rfl rfl rfl rfl kt kf) (fun h => ?_) (fun h => ?_)) | (show DL _ _ _ _ _ _ _; refine dl_ne rfl rfl (fun K kt kf => r_strn hG rfl rfl rfl rfl kt kf) (fun h => ?_) (fun h => ?_))
    | (show DL _ _ _ _ _ _ _; refine dl_s rfl rfl rfl ?_) | (show DL _ _ _ _ _ _ _; refine dl_nil ?_; first | show AW _ _ _ _ _ _ | show ∃ x', _ < _ ∧ _) | (show AW _ _ (.region _ _ true) _ _ _; refine aw_draw' mix (by kernel_rfl) ?_; intro O1) | fail)
        refine ⟨⟨n + 1, by omega, fun j hj => ?_⟩, by dsimp only; omega, ?_, .refl _⟩
        · by_cases hj2 : j < n
          · exact hb j hj2
          · obtain rfl : j = n := by omega
            rw [UInt16.lt_iff_toNat_lt]; omega
        · exact .cons rfl (.cons rfl (.cons rfl (.consW rfl (.int (by simp)) (.nil _))))
      · have hi2 := ins_at m n hn hb (fun _ h => hlt (hT_lt.2 h))
        by_cases heq : (((m.getD n default).toNat : Int) = ((a.getD i default).toNat : Int))
        · rw [if_pos ⟨hnm, by rw [← UInt16.toNat_inj]; omega⟩] at hi2
          repeat' (first
    | ((first | (show AL _ _ _ _ _ _ _ _; refine al_cons rfl ?_) | (show DL _ _ _ _ _ _ _; refine' dl_cons rfl rfl (fun K kk => ?_) ?_; try (show Go.Ts.T; rotate_left))); (first
      | (show AOp _ _ ⟨_, .move _, _, _, _, _⟩ _ _ _; refine r_move hG rfl rfl ?_)
      | (show AOp _ _ ⟨_, .assign _, _, _, _, _⟩ _ _ _; refine r_asg hG rfl rfl ?_)
      | (show AOp _ _ ⟨_, .call ⟨.builtin .len, _, _⟩, _, _, _, _⟩ _ _ _; first | refine r_lenm hG rfl rfl rfl rfl ?_ | refine r_len hG rfl rfl rfl rfl rfl ?_)
      | (show AOp _ _ ⟨_, .binOp .add _ _ _ _, _, _, _, _⟩ _ _ _; first | refine r_ari64 hG rfl rfl rfl rfl rfl (by omega) ?_ | refine r_aru64 hG rfl rfl rfl rfl rfl (by omega) ?_ | refine r_aru8 hG rfl rfl rfl rfl rfl (by omega) ?_ | refine r_aru16 hG rfl rfl rfl rfl rfl (by omega) ?_)
      | (show AOp _ _ ⟨_, .binOp _ _ _ _ _, _, _, _, _⟩ _ _ _; first | refine r_cmpT hG rfl rfl rfl rfl rfl (by omega) ?_ | refine r_cmpF hG rfl rfl rfl rfl rfl (by omega) ?_ | refine r_strT hG rfl rfl rfl rfl (by first | rfl | assumption) ?_ | refine r_strnF hG rfl rfl rfl rfl (by first | rfl | assumption) ?_ | refine r_strF hG rfl rfl rfl rfl (by assumption) ?_ | refine r_strnT hG rfl rfl rfl rfl (by assumption) ?_ | ((fail_if_success have := kk); refine r_cmp hG rfl rfl rfl rfl rfl (fun h => ?_) (fun h => ?_)) | ((fail_if_success have := kk); first | refine r_str hG rfl rfl rfl rfl (fun h => ?_) (fun h => ?_) | refine r_strn hG rfl rfl rfl rfl (fun h => ?_) (fun h => ?_)) | refine r_beq hG rfl rfl rfl rfl rfl ?_ | refine r_bin' hG rfl rfl rfl ?_)
      | (show AOp _ _ ⟨_, .load _ _, _, _, _, _⟩ _ _ _; first | refine r_ldro hG rfl rfl rfl ?_ | refine r_ld 0 hG rfl rfl rfl rfl ?_ | refine r_ld 1 hG rfl rfl rfl rfl ?_ | refine r_ld 2 hG rfl rfl rfl rfl ?_ | refine r_ld 3 hG rfl rfl rfl rfl ?_)
      | (show AOp _ _ ⟨_, .indexAddr _ _ _, _, _, _, _⟩ _ _ _; first | refine r_idx0 hG rfl rfl rfl rfl rfl rfl rfl ?_ | refine r_idxn hG rfl rfl rfl rfl rfl rfl rfl (by omega) ?_ | refine r_idxm hG rfl rfl rfl rfl rfl rfl rfl (by omega) ?_ | refine r_idx hG rfl rfl ?_)
      | (show AOp _ _ ⟨_, .slice _ _ _ _ _, _, _, _, _⟩ _ _ _; first | refine r_sl_lon hG rfl rfl rfl rfl rfl rfl rfl (by omega) ?_ | refine r_sl_hin hG rfl rfl rfl rfl rfl rfl rfl (by omega) ?_ | refine r_sl_lhn hG rfl rfl rfl rfl rfl rfl rfl rfl (by omega) ?_ | refine r_sl_lo hG rfl rfl rfl rfl rfl rfl rfl (by omega) ?_ | refine r_sl_hi hG rfl rfl rfl rfl rfl rfl rfl (by omega) ?_ | refine r_sl_lh hG rfl rfl rfl rfl rfl rfl rfl rfl (by omega) ?_ | refine op_cut0 hG rfl rfl rfl rfl rfl rfl rfl rfl rfl rfl ?_ | refine r_sl hG rfl rfl ?_)
      | (show AOp _ _ ⟨_, .pick _ _ _, _, _, _, _⟩ _ _ _; refine r_pick hG rfl rfl rfl ?_)
      | (show AOp _ _ ⟨_, .buildSlice _ _ _, _, _, _, _⟩ _ _ _; first | refine r_mk (sz := 1) hG rfl rfl rfl rfl rfl rfl rfl ?_ | refine r_mk (sz := 2) hG rfl rfl rfl rfl rfl rfl rfl ?_)
      | (show AOp _ _ ⟨_, .call ⟨.builtin .append, _, _⟩, _, _, _, _⟩ _ _ _; first | refine r_app0m (sz := 1) (xs := []) hG rfl rfl rfl rfl rfl rfl rfl ⟨_, rfl⟩ rfl rfl rfl rfl rfl rfl rfl (by first | omega | (simp; omega)) (fun k => ?_) | refine r_appm 0 hG rfl rfl rfl rfl rfl rfl rfl ⟨_, rfl⟩ rfl rfl rfl rfl rfl (by first | omega | (simp only [List.length_append, List.length_cons, List.length_nil]; omega)) (fun k => ?_) | fail)
      | refine r_q hG rfl rfl rfl ?_); try exact kk)
    | (show AL _ _ _ _ _ _ _ _; first | refine al_s rfl rfl rfl ?_ | (refine al_nil ?_; first | show AW _ _ _ _ _ _ | show ∃ x', _ < _ ∧ _)) | (show AW _ _ (.seq _ _) _ _ _; refine aw_seq' ?_; intro Q1) | (show AW _ _ (.region _ _ false) _ _ _; refine aw_regL' ?_; intro O1) | (show AW _ _ (.cond _ _ _) _ _ _; first | refine aw_if_t rfl ?_ | refine aw_if_f rfl ?_) | (show AW _ _ (.skip) _ _ _; refine aw_skip ?_; first | show AW _ _ _ _ _ _ | show ∃ x', _ < _ ∧ _) | (show AW _ _ (.block _ _) _ _ _; refine aw_block' ?_; intro Q1) | (show AW _ _ (.exit _) _ _ _; refine aw_exit ?_; first | show AW _ _ _ _ _ _ | show ∃ x', _ < _ ∧ _) | (show AW _ _ (.ret) _ _ _; refine aw_ret ?_; try dsimp only [thenA, inBlockA, jumpA, noGotoA])
    | (show DL _ _ _ _ _ _ _; refine dl_d rfl rfl (fun K kt kf => r_cmp hG rfl rfl rfl rfl rfl kt kf) (fun h => ?_) (fun h => ?_)) | (show DL _ _ _ _ _ _ _; refine dl_d rfl rfl (fun K kt kf => r_str hG rfl rfl rfl rfl kt kf) (fun h => ?_) (fun h => ?_)) | (show DL _ _ _ _ _ _ _; refine dl_ne rfl rfl (fun K kt kf => r_strn hG rfl rfl rfl rfl kt kf) (fun h => ?_) (fun h => ?_))
    | (show DL _ _ _ _ _ _ _; refine dl_s rfl rfl rfl ?_) | (show DL _ _ _ _ _ _ _; refine dl_nil ?_; first | show AW _ _ _ _ _ _ | show ∃ x', _ < _ ∧ _) | (show AW _ _ (.region _ _ true) _ _ _; refine aw_draw' mix (by kernel_rfl) ?_; intro O1) | fail)
          refine ⟨⟨i + 1, _, by omega⟩, by dsimp only; omega, ?_, .refl _⟩
          exact .cons rfl (.consW rfl (.int (by simp)) (.consW rfl (.eq (by rw [hnew, hi2])) (.nil _)))
        · rw [if_neg (fun h => heq (by rw [h.2]))] at hi2
          repeat' (first
    | ((first | (show AL _ _ _ _ _ _ _ _; refine al_cons rfl ?_) | (show DL _ _ _ _ _ _ _; refine' dl_cons rfl rfl (fun K kk => ?_) ?_; try (show Go.Ts.T; rotate_left))); (first
      | (show AOp _ _ ⟨_, .move _, _, _, _, _⟩ _ _ _; refine r_move hG rfl rfl ?_)
      | (show AOp _ _ ⟨_, .assign _, _, _, _, _⟩ _ _ _; refine r_asg hG rfl rfl ?_)
      | (show AOp _ _ ⟨_, .call ⟨.builtin .len, _, _⟩, _, _, _, _⟩ _ _ _; first | refine r_lenm hG rfl rfl rfl rfl ?_ | refine r_len hG rfl rfl rfl rfl rfl ?_)
      | (show AOp _ _ ⟨_, .binOp .add _ _ _ _, _, _, _, _⟩ _ _ _; first | refine r_ari64 hG rfl rfl rfl rfl rfl (by omega) ?_ | refine r_aru64 hG rfl rfl rfl rfl rfl (by omega) ?_ | refine r_aru8 hG rfl rfl rfl rfl rfl (by omega) ?_ | refine r_aru16 hG rfl rfl rfl rfl rfl (by omega) ?_)
      | (show AOp _ _ ⟨_, .binOp _ _ _ _ _, _, _, _, _⟩ _ _ _; first | refine r_cmpT hG rfl rfl rfl rfl rfl (by omega) ?_ | refine r_cmpF hG rfl rfl rfl rfl rfl (by omega) ?_ | refine r_strT hG rfl rfl rfl rfl (by first | rfl | assumption) ?_ | refine r_strnF hG rfl rfl rfl rfl (by first | rfl | assumption) ?_ | refine r_strF hG rfl rfl rfl rfl (by assumption) ?_ | refine r_strnT hG rfl rfl rfl rfl (by assumption) ?_ | ((fail_if_success have := kk); refine r_cmp hG rfl rfl rfl rfl rfl (fun h => ?_) (fun h => ?_)) | ((fail_if_success have := kk); first | refine r_str hG rfl rfl rfl rfl (fun h => ?_) (fun h => ?_) | refine r_strn hG rfl rfl rfl rfl (fun h => ?_) (fun h => ?_)) | refine r_beq hG rfl rfl rfl rfl rfl ?_ | refine r_bin' hG rfl rfl rfl ?_)
      | (show AOp _ _ ⟨_, .load _ _, _, _, _, _⟩ _ _ _; first | refine r_ldro hG rfl rfl rfl ?_ | refine r_ld 0 hG rfl rfl rfl rfl ?_ | refine r_ld 1 hG rfl rfl rfl rfl ?_ | refine r_ld 2 hG rfl rfl rfl rfl ?_ | refine r_ld 3 hG rfl rfl rfl rfl ?_)
      | (show AOp _ _ ⟨_, .indexAddr _ _ _, _, _, _, _⟩ _ _ _; first | refine r_idx0 hG rfl rfl rfl rfl rfl rfl rfl ?_ | refine r_idxn hG rfl rfl rfl rfl rfl rfl rfl (by omega) ?_ | refine r_idxm hG rfl rfl rfl rfl rfl rfl rfl (by omega) ?_ | refine r_idx hG rfl rfl ?_)
      | (show AOp _ _ ⟨_, .slice _ _ _ _ _, _, _, _, _⟩ _ _ _; first | refine r_sl_lon hG rfl rfl rfl rfl rfl rfl rfl (by omega) ?_ | refine r_sl_hin hG rfl rfl rfl rfl rfl rfl rfl (by omega) ?_ | refine r_sl_lhn hG rfl rfl rfl rfl rfl rfl rfl rfl (by omega) ?_ | refine r_sl_lo hG rfl rfl rfl rfl rfl rfl rfl (by omega) ?_ | refine r_sl_hi hG rfl rfl rfl rfl rfl rfl rfl (by omega) ?_ | refine r_sl_lh hG rfl rfl rfl rfl rfl rfl rfl rfl (by omega) ?_ | refine op_cut0 hG rfl rfl rfl rfl rfl rfl rfl rfl rfl rfl ?_ | refine r_sl hG rfl rfl ?_)
      | (show AOp _ _ ⟨_, .pick _ _ _, _, _, _, _⟩ _ _ _; refine r_pick hG rfl rfl rfl ?_)
      | (show AOp _ _ ⟨_, .buildSlice _ _ _, _, _, _, _⟩ _ _ _; first | refine r_mk (sz := 1) hG rfl rfl rfl rfl rfl rfl rfl ?_ | refine r_mk (sz := 2) hG rfl rfl rfl rfl rfl rfl rfl ?_)
      | (show AOp _ _ ⟨_, .call ⟨.builtin .append, _, _⟩, _, _, _, _⟩ _ _ _; first | refine r_app0m (sz := 1) (xs := []) hG rfl rfl rfl rfl rfl rfl rfl ⟨_, rfl⟩ rfl rfl rfl rfl rfl rfl rfl (by first | omega | (simp; omega)) (fun k => ?_) | refine r_appm 0 hG rfl rfl rfl rfl rfl rfl rfl ⟨_, rfl⟩ rfl rfl rfl rfl rfl (by first | omega | (simp only [List.length_append, List.length_cons, List.length_nil]; omega)) (fun k => ?_) | fail)
      | refine r_q hG rfl rfl rfl ?_); try exact kk)
    | (show AL _ _ _ _ _ _ _ _; first | refine al_s rfl rfl rfl ?_ | (refine al_nil ?_; first | show AW _ _ _ _ _ _ | show ∃ x', _ < _ ∧ _)) | (show AW _ _ (.seq _ _) _ _ _; refine aw_seq' ?_; intro Q1) | (show AW _ _ (.region _ _ false) _ _ _; refine aw_regL' ?_; intro O1) | (show AW _ _ (.cond _ _ _) _ _ _; first | refine aw_if_t rfl ?_ | refine aw_if_f rfl ?_) | (show AW _ _ (.skip) _ _ _; refine aw_skip ?_; first | show AW _ _ _ _ _ _ | show ∃ x', _ < _ ∧ _) | (show AW _ _ (.block _ _) _ _ _; refine aw_block' ?_; intro Q1) | (show AW _ _ (.exit _) _ _ _; refine aw_exit ?_; first | show AW _ _ _ _ _ _ | show ∃ x', _ < _ ∧ _) | (show AW _ _ (.ret) _ _ _; refine aw_ret ?_; try dsimp only [thenA, inBlockA, jumpA, noGotoA])
    | (show DL _ _ _ _ _ _ _; refine dl_d rfl rfl (fun K kt kf => r_cmp hG rfl rfl rfl rfl rfl kt kf) (fun h => ?_) (fun h => ?_)) | (show DL _ _ _ _ _ _ _; refine dl_d rfl rfl (fun K kt kf => r_str hG rfl rfl rfl rfl kt kf) (fun h => ?_) (fun h => ?_)) | (show DL _ _ _ _ _ _ _; refine dl_ne rfl rfl (fun K kt kf => r_strn hG rfl rfl rfl rfl kt kf) (fun h => ?_) (fun h => ?_))
    | (show DL _ _ _ _ _ _ _; refine dl_s rfl rfl rfl ?_) | (show DL _ _ _ _ _ _ _; refine dl_nil ?_; first | show AW _ _ _ _ _ _ | show ∃ x', _ < _ ∧ _) | (show AW _ _ (.region _ _ true) _ _ _; (fail_if_success show AW _ _ (.region 9 _ _) _ _ _); refine aw_draw' mix (by kernel_rfl) ?_; intro O1) | fail)
          refine aw_drawE' (m := 15) [4, 10, 14] (fun σ => ∃ R, σ = ⟨[], R, off, none⟩) mix rfl (by repeat (first | exact Sp.zero _ | apply Sp.succ)) ?_; intro O1 F1 Z1 Q2
          repeat' (first
    | (refine' dq_cons rfl rfl rfl (fun σ hσ K kk => ?_) ?_; (try (show Go.Ts.T; rotate_left)); (obtain ⟨R, rfl⟩ := hσ); (first
      | (show AOp _ _ ⟨_, .move _, _, _, _, _⟩ _ _ _; refine r_move hG rfl rfl ?_)
      | (show AOp _ _ ⟨_, .assign _, _, _, _, _⟩ _ _ _; refine r_asg hG rfl rfl ?_)
      | (show AOp _ _ ⟨_, .call ⟨.builtin .len, _, _⟩, _, _, _, _⟩ _ _ _; first | refine r_lenm hG rfl rfl rfl rfl ?_ | refine r_len hG rfl rfl rfl rfl rfl ?_)
      | (show AOp _ _ ⟨_, .binOp .add _ _ _ _, _, _, _, _⟩ _ _ _; first | refine r_ari64 hG rfl rfl rfl rfl rfl (by omega) ?_ | refine r_aru64 hG rfl rfl rfl rfl rfl (by omega) ?_ | refine r_aru8 hG rfl rfl rfl rfl rfl (by omega) ?_ | refine r_aru16 hG rfl rfl rfl rfl rfl (by omega) ?_)
      | (show AOp _ _ ⟨_, .binOp _ _ _ _ _, _, _, _, _⟩ _ _ _; first | refine r_cmpT hG rfl rfl rfl rfl rfl (by omega) ?_ | refine r_cmpF hG rfl rfl rfl rfl rfl (by omega) ?_ | refine r_strT hG rfl rfl rfl rfl (by first | rfl | assumption) ?_ | refine r_strnF hG rfl rfl rfl rfl (by first | rfl | assumption) ?_ | refine r_strF hG rfl rfl rfl rfl (by assumption) ?_ | refine r_strnT hG rfl rfl rfl rfl (by assumption) ?_ | refine r_beq hG rfl rfl rfl rfl rfl ?_ | refine r_bin' hG rfl rfl rfl ?_)
      | (show AOp _ _ ⟨_, .load _ _, _, _, _, _⟩ _ _ _; first | refine r_ldro hG rfl rfl rfl ?_ | refine r_ld 0 hG rfl rfl rfl rfl ?_ | refine r_ld 1 hG rfl rfl rfl rfl ?_ | refine r_ld 2 hG rfl rfl rfl rfl ?_ | refine r_ld 3 hG rfl rfl rfl rfl ?_)
      | (show AOp _ _ ⟨_, .indexAddr _ _ _, _, _, _, _⟩ _ _ _; first | refine r_idx0 hG rfl rfl rfl rfl rfl rfl rfl ?_ | refine r_idxn hG rfl rfl rfl rfl rfl rfl rfl (by omega) ?_ | refine r_idxm hG rfl rfl rfl rfl rfl rfl rfl (by omega) ?_ | refine r_idx hG rfl rfl ?_)
      | (show AOp _ _ ⟨_, .slice _ _ _ _ _, _, _, _, _⟩ _ _ _; first | refine r_sl_lon hG rfl rfl rfl rfl rfl rfl rfl (by omega) ?_ | refine r_sl_hin hG rfl rfl rfl rfl rfl rfl rfl (by omega) ?_ | refine r_sl_lhn hG rfl rfl rfl rfl rfl rfl rfl rfl (by omega) ?_ | refine r_sl_lo hG rfl rfl rfl rfl rfl rfl rfl (by omega) ?_ | refine r_sl_hi hG rfl rfl rfl rfl rfl rfl rfl (by omega) ?_ | refine r_sl_lh hG rfl rfl rfl rfl rfl rfl rfl rfl (by omega) ?_ | refine op_cut0 hG rfl rfl rfl rfl rfl rfl rfl rfl rfl rfl ?_ | refine r_sl hG rfl rfl ?_)
      | (show AOp _ _ ⟨_, .pick _ _ _, _, _, _, _⟩ _ _ _; refine r_pick hG rfl rfl rfl ?_)
      | (show AOp _ _ ⟨_, .buildSlice _ _ _, _, _, _, _⟩ _ _ _; first | refine r_mk (sz := 1) hG rfl rfl rfl rfl rfl rfl rfl ?_ | refine r_mk (sz := 2) hG rfl rfl rfl rfl rfl rfl rfl ?_)
      | (show AOp _ _ ⟨_, .call ⟨.builtin .append, _, _⟩, _, _, _, _⟩ _ _ _; first | refine r_appm 0 (ys := [a.getD i default]) hG rfl rfl rfl rfl rfl rfl rfl ⟨_, rfl⟩ rfl rfl rfl rfl rfl (by simp only [List.length_append, List.length_map, List.length_cons, List.length_nil]; omega) (fun k => ?_) | refine r_app0m (sz := 1) (xs := []) hG rfl rfl rfl rfl rfl rfl rfl ⟨_, rfl⟩ rfl rfl rfl rfl rfl rfl rfl (by first | omega | (simp; omega)) (fun k => ?_) | refine r_appm 0 hG rfl rfl rfl rfl rfl rfl rfl ⟨_, rfl⟩ rfl rfl rfl rfl rfl (by first | omega | (simp only [List.length_append, List.length_cons, List.length_nil]; omega)) (fun k => ?_) | fail)
      | refine r_q hG rfl rfl rfl ?_); exact kk)
    | refine dq_d rfl rfl rfl (fun σ hσ K kt kf => by obtain ⟨R, rfl⟩ := hσ; exact r_cmp hG rfl rfl rfl rfl rfl kt kf) (fun h => ?_) (fun h => ?_)
    | refine dq_d rfl rfl rfl (fun σ hσ K kt kf => by obtain ⟨R, rfl⟩ := hσ; exact r_str hG rfl rfl rfl rfl kt kf) (fun h => ?_) (fun h => ?_)
    | refine dq_s rfl rfl rfl rfl ?_ | refine dq_e rfl ?_ | (refine dq_nil ?_; show EL _ _ _ _ _ _ _ _ _) | refine el_s ⟨_, rfl⟩ rfl rfl rfl rfl ?_
    | ((first | refine el_cons ⟨_, rfl⟩ rfl rfl rfl (fun K ke => ?_) | refine el_consN ⟨_, rfl⟩ rfl rfl rfl (fun K ke => ?_)); (first
      | (show AOp _ _ ⟨_, .move _, _, _, _, _⟩ _ _ _; refine r_move hG rfl rfl ?_)
      | (show AOp _ _ ⟨_, .assign _, _, _, _, _⟩ _ _ _; refine r_asg hG rfl rfl ?_)
      | (show AOp _ _ ⟨_, .call ⟨.builtin .len, _, _⟩, _, _, _, _⟩ _ _ _; first | refine r_lenm hG rfl rfl rfl rfl ?_ | refine r_len hG rfl rfl rfl rfl rfl ?_)
      | (show AOp _ _ ⟨_, .binOp .add _ _ _ _, _, _, _, _⟩ _ _ _; first | refine r_ari64 hG rfl rfl rfl rfl rfl (by omega) ?_ | refine r_aru64 hG rfl rfl rfl rfl rfl (by omega) ?_ | refine r_aru8 hG rfl rfl rfl rfl rfl (by omega) ?_ | refine r_aru16 hG rfl rfl rfl rfl rfl (by omega) ?_)
      | (show AOp _ _ ⟨_, .binOp _ _ _ _ _, _, _, _, _⟩ _ _ _; first | refine r_cmpT hG rfl rfl rfl rfl rfl (by omega) ?_ | refine r_cmpF hG rfl rfl rfl rfl rfl (by omega) ?_ | refine r_strT hG rfl rfl rfl rfl (by first | rfl | assumption) ?_ | refine r_strnF hG rfl rfl rfl rfl (by first | rfl | assumption) ?_ | refine r_strF hG rfl rfl rfl rfl (by assumption) ?_ | refine r_strnT hG rfl rfl rfl rfl (by assumption) ?_ | refine r_beq hG rfl rfl rfl rfl rfl ?_ | refine r_bin' hG rfl rfl rfl ?_)
      | (show AOp _ _ ⟨_, .load _ _, _, _, _, _⟩ _ _ _; first | refine r_ldro hG rfl rfl rfl ?_ | refine r_ld 0 hG rfl rfl rfl rfl ?_ | refine r_ld 1 hG rfl rfl rfl rfl ?_ | refine r_ld 2 hG rfl rfl rfl rfl ?_ | refine r_ld 3 hG rfl rfl rfl rfl ?_)
      | (show AOp _ _ ⟨_, .indexAddr _ _ _, _, _, _, _⟩ _ _ _; first | refine r_idx0 hG rfl rfl rfl rfl rfl rfl rfl ?_ | refine r_idxn hG rfl rfl rfl rfl rfl rfl rfl (by omega) ?_ | refine r_idxm hG rfl rfl rfl rfl rfl rfl rfl (by omega) ?_ | refine r_idx hG rfl rfl ?_)
      | (show AOp _ _ ⟨_, .slice _ _ _ _ _, _, _, _, _⟩ _ _ _; first | refine r_sl_lon hG rfl rfl rfl rfl rfl rfl rfl (by omega) ?_ | refine r_sl_hin hG rfl rfl rfl rfl rfl rfl rfl (by omega) ?_ | refine r_sl_lhn hG rfl rfl rfl rfl rfl rfl rfl rfl (by omega) ?_ | refine r_sl_lo hG rfl rfl rfl rfl rfl rfl rfl (by omega) ?_ | refine r_sl_hi hG rfl rfl rfl rfl rfl rfl rfl (by omega) ?_ | refine r_sl_lh hG rfl rfl rfl rfl rfl rfl rfl rfl (by omega) ?_ | refine op_cut0 hG rfl rfl rfl rfl rfl rfl rfl rfl rfl rfl ?_ | refine r_sl hG rfl rfl ?_)
      | (show AOp _ _ ⟨_, .pick _ _ _, _, _, _, _⟩ _ _ _; refine r_pick hG rfl rfl rfl ?_)
      | (show AOp _ _ ⟨_, .buildSlice _ _ _, _, _, _, _⟩ _ _ _; first | refine r_mk (sz := 1) hG rfl rfl rfl rfl rfl rfl rfl ?_ | refine r_mk (sz := 2) hG rfl rfl rfl rfl rfl rfl rfl ?_)
      | (show AOp _ _ ⟨_, .call ⟨.builtin .append, _, _⟩, _, _, _, _⟩ _ _ _; first | refine r_appm 0 (ys := [a.getD i default]) hG rfl rfl rfl rfl rfl rfl rfl ⟨_, rfl⟩ rfl rfl rfl rfl rfl (by simp only [List.length_append, List.length_map, List.length_cons, List.length_nil]; omega) (fun k => ?_) | refine r_app0m (sz := 1) (xs := []) hG rfl rfl rfl rfl rfl rfl rfl ⟨_, rfl⟩ rfl rfl rfl rfl rfl rfl rfl (by first | omega | (simp; omega)) (fun k => ?_) | refine r_appm 0 hG rfl rfl rfl rfl rfl rfl rfl ⟨_, rfl⟩ rfl rfl rfl rfl rfl (by first | omega | (simp only [List.length_append, List.length_cons, List.length_nil]; omega)) (fun k => ?_) | fail)
      | refine r_q hG rfl rfl rfl ?_); refine ke _ _ ?_)
    | (refine el_nil ⟨_, rfl⟩ ?_; show AL _ _ _ _ _ _ _ _) | fail)
          repeat' (first
    | ((first | (show AL _ _ _ _ _ _ _ _; refine al_cons rfl ?_) | (show DL _ _ _ _ _ _ _; refine' dl_cons rfl rfl (fun K kk => ?_) ?_; try (show Go.Ts.T; rotate_left))); (first
      | (show AOp _ _ ⟨_, .move _, _, _, _, _⟩ _ _ _; refine r_move hG rfl rfl ?_)
      | (show AOp _ _ ⟨_, .assign _, _, _, _, _⟩ _ _ _; refine r_asg hG rfl rfl ?_)
      | (show AOp _ _ ⟨_, .call ⟨.builtin .len, _, _⟩, _, _, _, _⟩ _ _ _; first | refine r_lenm hG rfl rfl rfl rfl ?_ | refine r_len hG rfl rfl rfl rfl rfl ?_)
      | (show AOp _ _ ⟨_, .binOp .add _ _ _ _, _, _, _, _⟩ _ _ _; first | refine r_ari64 hG rfl rfl rfl rfl rfl (by omega) ?_ | refine r_aru64 hG rfl rfl rfl rfl rfl (by omega) ?_ | refine r_aru8 hG rfl rfl rfl rfl rfl (by omega) ?_ | refine r_aru16 hG rfl rfl rfl rfl rfl (by omega) ?_)
      | (show AOp _ _ ⟨_, .binOp _ _ _ _ _, _, _, _, _⟩ _ _ _; first | refine r_cmpT hG rfl rfl rfl rfl rfl (by omega) ?_ | refine r_cmpF hG rfl rfl rfl rfl rfl (by omega) ?_ | refine r_strT hG rfl rfl rfl rfl (by first | rfl | assumption) ?_ | refine r_strnF hG rfl rfl rfl rfl (by first | rfl | assumption) ?_ | refine r_strF hG rfl rfl rfl rfl (by assumption) ?_ | refine r_strnT hG rfl rfl rfl rfl (by assumption) ?_ | ((fail_if_success have := kk); refine r_cmp hG rfl rfl rfl rfl rfl (fun h => ?_) (fun h => ?_)) | ((fail_if_success have := kk); first | refine r_str hG rfl rfl rfl rfl (fun h => ?_) (fun h => ?_) | refine r_strn hG rfl rfl rfl rfl (fun h => ?_) (fun h => ?_)) | refine r_beq hG rfl rfl rfl rfl rfl ?_ | refine r_bin' hG rfl rfl rfl ?_)
      | (show AOp _ _ ⟨_, .load _ _, _, _, _, _⟩ _ _ _; first | refine r_ldro hG rfl rfl rfl ?_ | refine r_ld 0 hG rfl rfl rfl rfl ?_ | refine r_ld 1 hG rfl rfl rfl rfl ?_ | refine r_ld 2 hG rfl rfl rfl rfl ?_ | refine r_ld 3 hG rfl rfl rfl rfl ?_)
      | (show AOp _ _ ⟨_, .indexAddr _ _ _, _, _, _, _⟩ _ _ _; first | refine r_idx0 hG rfl rfl rfl rfl rfl rfl rfl ?_ | refine r_idxn hG rfl rfl rfl rfl rfl rfl rfl (by omega) ?_ | refine r_idxm hG rfl rfl rfl rfl rfl rfl rfl (by omega) ?_ | refine r_idx hG rfl rfl ?_)
      | (show AOp _ _ ⟨_, .slice _ _ _ _ _, _, _, _, _⟩ _ _ _; first | refine r_sl_lon hG rfl rfl rfl rfl rfl rfl rfl (by omega) ?_ | refine r_sl_hin hG rfl rfl rfl rfl rfl rfl rfl (by omega) ?_ | refine r_sl_lhn hG rfl rfl rfl rfl rfl rfl rfl rfl (by omega) ?_ | refine r_sl_lo hG rfl rfl rfl rfl rfl rfl rfl (by omega) ?_ | refine r_sl_hi hG rfl rfl rfl rfl rfl rfl rfl (by omega) ?_ | refine r_sl_lh hG rfl rfl rfl rfl rfl rfl rfl rfl (by omega) ?_ | refine op_cut0 hG rfl rfl rfl rfl rfl rfl rfl rfl rfl rfl ?_ | refine r_sl hG rfl rfl ?_)
      | (show AOp _ _ ⟨_, .pick _ _ _, _, _, _, _⟩ _ _ _; refine r_pick hG rfl rfl rfl ?_)
      | (show AOp _ _ ⟨_, .buildSlice _ _ _, _, _, _, _⟩ _ _ _; first | refine r_mk (sz := 1) hG rfl rfl rfl rfl rfl rfl rfl ?_ | refine r_mk (sz := 2) hG rfl rfl rfl rfl rfl rfl rfl ?_)
      | (show AOp _ _ ⟨_, .call ⟨.builtin .append, _, _⟩, _, _, _, _⟩ _ _ _; first | refine r_app0m (sz := 1) (xs := []) hG rfl rfl rfl rfl rfl rfl rfl ⟨_, rfl⟩ rfl rfl rfl rfl rfl rfl rfl (by first | omega | (simp; omega)) (fun k => ?_) | refine r_appm 0 hG rfl rfl rfl rfl rfl rfl rfl ⟨_, rfl⟩ rfl rfl rfl rfl rfl (by first | omega | (simp only [List.length_append, List.length_cons, List.length_nil]; omega)) (fun k => ?_) | fail)
      | refine r_q hG rfl rfl rfl ?_); try exact kk)
    | (show AL _ _ _ _ _ _ _ _; first | refine al_s rfl rfl rfl ?_ | (refine al_nil ?_; first | show AW _ _ _ _ _ _ | show ∃ x', _ < _ ∧ _)) | (show AW _ _ (.seq _ _) _ _ _; refine aw_seq' ?_; intro Q1) | (show AW _ _ (.region _ _ false) _ _ _; refine aw_regL' ?_; intro O1) | (show AW _ _ (.cond _ _ _) _ _ _; first | refine aw_if_t rfl ?_ | refine aw_if_f rfl ?_) | (show AW _ _ (.skip) _ _ _; refine aw_skip ?_; first | show AW _ _ _ _ _ _ | show ∃ x', _ < _ ∧ _) | (show AW _ _ (.block _ _) _ _ _; refine aw_block' ?_; intro Q1) | (show AW _ _ (.exit _) _ _ _; refine aw_exit ?_; first | show AW _ _ _ _ _ _ | show ∃ x', _ < _ ∧ _) | (show AW _ _ (.ret) _ _ _; refine aw_ret ?_; try dsimp only [thenA, inBlockA, jumpA, noGotoA])
    | (show DL _ _ _ _ _ _ _; refine dl_d rfl rfl (fun K kt kf => r_cmp hG rfl rfl rfl rfl rfl kt kf) (fun h => ?_) (fun h => ?_)) | (show DL _ _ _ _ _ _ _; refine dl_d rfl rfl (fun K kt kf => r_str hG rfl rfl rfl rfl kt kf) (fun h => ?_) (fun h => ?_)) | (show DL _ _ _ _ _ _ _; refine dl_ne rfl rfl (fun K kt kf => r_strn hG rfl rfl rfl rfl kt kf) (fun h => ?_) (fun h => ?_))
    | (show DL _ _ _ _ _ _ _; refine dl_s rfl rfl rfl ?_) | (show DL _ _ _ _ _ _ _; refine dl_nil ?_; first | show AW _ _ _ _ _ _ | show ∃ x', _ < _ ∧ _) | (show AW _ _ (.region _ _ true) _ _ _; refine aw_draw' mix (by kernel_rfl) ?_; intro O1) | fail)
          refine ⟨⟨i + 1, _, by omega⟩, by dsimp only; omega, ?_, drop_tok⟩
          exact .cons rfl (.consW rfl (.int (by simp)) (.consW rfl (.eq (by rw [hnew, hi2]; simp)) (.nil _)))
    · have hi2 := ins_at m n hn hb (fun h => absurd h hnm)
      rw [if_neg (fun h => hnm h.1)] at hi2
      repeat' (first
    | ((first | (show AL _ _ _ _ _ _ _ _; refine al_cons rfl ?_) | (show DL _ _ _ _ _ _ _; refine' dl_cons rfl rfl (fun K kk => ?_) ?_; try (show Go.Ts.T; rotate_left))); (first
      | (show AOp _ _ ⟨_, .move _, _, _, _, _⟩ _ _ _; refine r_move hG rfl rfl ?_)
      | (show AOp _ _ ⟨_, .assign _, _, _, _, _⟩ _ _ _; refine r_asg hG rfl rfl ?_)
      | (show AOp _ _ ⟨_, .call ⟨.builtin .len, _, _⟩, _, _, _, _⟩ _ _ _; first | refine r_lenm hG rfl rfl rfl rfl ?_ | refine r_len hG rfl rfl rfl rfl rfl ?_)
      | (show AOp _ _ ⟨_, .binOp .add _ _ _ _, _, _, _, _⟩ _ _ _; first | refine r_ari64 hG rfl rfl rfl rfl rfl (by omega) ?_ | refine r_aru64 hG rfl rfl rfl rfl rfl (by omega) ?_ | refine r_aru8 hG rfl rfl rfl rfl rfl (by omega) ?_ | refine r_aru16 hG rfl rfl rfl rfl rfl (by omega) ?_)
      | (show AOp _ _ ⟨_, .binOp _ _ _ _ _, _, _, _, _⟩ _ _ _; first | refine r_cmpT hG rfl rfl rfl rfl rfl (by omega) ?_ | refine r_cmpF hG rfl rfl rfl rfl rfl (by omega) ?_ | refine r_strT hG rfl rfl rfl rfl (by first | rfl | assumption) ?_ | refine r_strnF hG rfl rfl rfl rfl (by first | rfl | assumption) ?_ | refine r_strF hG rfl rfl rfl rfl (by assumption) ?_ | refine r_strnT hG rfl rfl rfl rfl (by assumption) ?_ | ((fail_if_success have := kk); refine r_cmp hG rfl rfl rfl rfl rfl (fun h => ?_) (fun h => ?_)) | ((fail_if_success have := kk); first | refine r_str hG rfl rfl rfl rfl (fun h => ?_) (fun h => ?_) | refine r_strn hG rfl rfl rfl rfl (fun h => ?_) (fun h => ?_)) | refine r_beq hG rfl rfl rfl rfl rfl ?_ | refine r_bin' hG rfl rfl rfl ?_)
      | (show AOp _ _ ⟨_, .load _ _, _, _, _, _⟩ _ _ _; first | refine r_ldro hG rfl rfl rfl ?_ | refine r_ld 0 hG rfl rfl rfl rfl ?_ | refine r_ld 1 hG rfl rfl rfl rfl ?_ | refine r_ld 2 hG rfl rfl rfl rfl ?_ | refine r_ld 3 hG rfl rfl rfl rfl ?_)
      | (show AOp _ _ ⟨_, .indexAddr _ _ _, _, _, _, _⟩ _ _ _; first | refine r_idx0 hG rfl rfl rfl rfl rfl rfl rfl ?_ | refine r_idxn hG rfl rfl rfl rfl rfl rfl rfl (by omega) ?_ | refine r_idxm hG rfl rfl rfl rfl rfl rfl rfl (by omega) ?_ | refine r_idx hG rfl rfl ?_)
      | (show AOp _ _ ⟨_, .slice _ _ _ _ _, _, _, _, _⟩ _ _ _; first | refine r_sl_lon hG rfl rfl rfl rfl rfl rfl rfl (by omega) ?_ | refine r_sl_hin hG rfl rfl rfl rfl rfl rfl rfl (by omega) ?_ | refine r_sl_lhn hG rfl rfl rfl rfl rfl rfl rfl rfl (by omega) ?_ | refine r_sl_lo hG rfl rfl rfl rfl rfl rfl rfl (by omega) ?_ | refine r_sl_hi hG rfl rfl rfl rfl rfl rfl rfl (by omega) ?_ | refine r_sl_lh hG rfl rfl rfl rfl rfl rfl rfl rfl (by omega) ?_ | refine op_cut0 hG rfl rfl rfl rfl rfl rfl rfl rfl rfl rfl ?_ | refine r_sl hG rfl rfl ?_)
      | (show AOp _ _ ⟨_, .pick _ _ _, _, _, _, _⟩ _ _ _; refine r_pick hG rfl rfl rfl ?_)
      | (show AOp _ _ ⟨_, .buildSlice _ _ _, _, _, _, _⟩ _ _ _; first | refine r_mk (sz := 1) hG rfl rfl rfl rfl rfl rfl rfl ?_ | refine r_mk (sz := 2) hG rfl rfl rfl rfl rfl rfl rfl ?_)
      | (show AOp _ _ ⟨_, .call ⟨.builtin .append, _, _⟩, _, _, _, _⟩ _ _ _; first | refine r_app0m (sz := 1) (xs := []) hG rfl rfl rfl rfl rfl rfl rfl ⟨_, rfl⟩ rfl rfl rfl rfl rfl rfl rfl (by first | omega | (simp; omega)) (fun k => ?_) | refine r_appm 0 hG rfl rfl rfl rfl rfl rfl rfl ⟨_, rfl⟩ rfl rfl rfl rfl rfl (by first | omega | (simp only [List.length_append, List.length_cons, List.length_nil]; omega)) (fun k => ?_) | fail)
      | refine r_q hG rfl rfl rfl ?_); try exact kk)
    | (show AL _ _ _ _ _ _ _ _; first | refine al_s rfl rfl rfl ?_ | (refine al_nil ?_; first | show AW _ _ _ _ _ _ | show ∃ x', _ < _ ∧ _)) | (show AW _ _ (.seq _ _) _ _ _; refine aw_seq' ?_; intro Q1) | (show AW _ _ (.region _ _ false) _ _ _; refine aw_regL' ?_; intro O1) | (show AW _ _ (.cond _ _ _) _ _ _; first | refine aw_if_t rfl ?_ | refine aw_if_f rfl ?_) | (show AW _ _ (.skip) _ _ _; refine aw_skip ?_; first | show AW _ _ _ _ _ _ | show ∃ x', _ < _ ∧ _) | (show AW _ _ (.block _ _) _ _ _; refine aw_block' ?_; intro Q1) | (show AW _ _ (.exit _) _ _ _; refine aw_exit ?_; first | show AW _ _ _ _ _ _ | show ∃ x', _ < _ ∧ _) | (show AW _ _ (.ret) _ _ _; refine aw_ret ?_; try dsimp only [thenA, inBlockA, jumpA, noGotoA])
    | (show DL _ _ _ _ _ _ _; refine dl_d rfl rfl (fun K kt kf => r_cmp hG rfl rfl rfl rfl rfl kt kf) (fun h => ?_) (fun h => ?_)) | (show DL _ _ _ _ _ _ _; refine dl_d rfl rfl (fun K kt kf => r_str hG rfl rfl rfl rfl kt kf) (fun h => ?_) (fun h => ?_)) | (show DL _ _ _ _ _ _ _; refine dl_ne rfl rfl (fun K kt kf => r_strn hG rfl rfl rfl rfl kt kf) (fun h => ?_) (fun h => ?_))
    | (show DL _ _ _ _ _ _ _; refine dl_s rfl rfl rfl ?_) | (show DL _ _ _ _ _ _ _; refine dl_nil ?_; first | show AW _ _ _ _ _ _ | show ∃ x', _ < _ ∧ _) | (show AW _ _ (.region _ _ true) _ _ _; (fail_if_success show AW _ _ (.region 9 _ _) _ _ _); refine aw_draw' mix (by kernel_rfl) ?_; intro O1) | fail)
      refine aw_drawE' (m := 15) [4, 10, 14] (fun σ => ∃ R, σ = ⟨[], R, off, none⟩) mix rfl (by repeat (first | exact Sp.zero _ | apply Sp.succ)) ?_; intro O1 F1 Z1 Q2
      repeat' (first
    | (refine' dq_cons rfl rfl rfl (fun σ hσ K kk => ?_) ?_; (try (show Go.Ts.T; rotate_left)); (obtain ⟨R, rfl⟩ := hσ); (first
      | (show AOp _ _ ⟨_, .move _, _, _, _, _⟩ _ _ _; refine r_move hG rfl rfl ?_)
      | (show AOp _ _ ⟨_, .assign _, _, _, _, _⟩ _ _ _; refine r_asg hG rfl rfl ?_)
      | (show AOp _ _ ⟨_, .call ⟨.builtin .len, _, _⟩, _, _, _, _⟩ _ _ _; first | refine r_lenm hG rfl rfl rfl rfl ?_ | refine r_len hG rfl rfl rfl rfl rfl ?_)
      | (show AOp _ _ ⟨_, .binOp .add _ _ _ _, _, _, _, _⟩ _ _ _; first | refine r_ari64 hG rfl rfl rfl rfl rfl (by omega) ?_ | refine r_aru64 hG rfl rfl rfl rfl rfl (by omega) ?_ | refine r_aru8 hG rfl rfl rfl rfl rfl (by omega) ?_ | refine r_aru16 hG rfl rfl rfl rfl rfl (by omega) ?_)
      | (show AOp _ _ ⟨_, .binOp _ _ _ _ _, _, _, _, _⟩ _ _ _; first | refine r_cmpT hG rfl rfl rfl rfl rfl (by omega) ?_ | refine r_cmpF hG rfl rfl rfl rfl rfl (by omega) ?_ | refine r_strT hG rfl rfl rfl rfl (by first | rfl | assumption) ?_ | refine r_strnF hG rfl rfl rfl rfl (by first | rfl | assumption) ?_ | refine r_strF hG rfl rfl rfl rfl (by assumption) ?_ | refine r_strnT hG rfl rfl rfl rfl (by assumption) ?_ | refine r_beq hG rfl rfl rfl rfl rfl ?_ | refine r_bin' hG rfl rfl rfl ?_)
      | (show AOp _ _ ⟨_, .load _ _, _, _, _, _⟩ _ _ _; first | refine r_ldro hG rfl rfl rfl ?_ | refine r_ld 0 hG rfl rfl rfl rfl ?_ | refine r_ld 1 hG rfl rfl rfl rfl ?_ | refine r_ld 2 hG rfl rfl rfl rfl ?_ | refine r_ld 3 hG rfl rfl rfl rfl ?_)
      | (show AOp _ _ ⟨_, .indexAddr _ _ _, _, _, _, _⟩ _ _ _; first | refine r_idx0 hG rfl rfl rfl rfl rfl rfl rfl ?_ | refine r_idxn hG rfl rfl rfl rfl rfl rfl rfl (by omega) ?_ | refine r_idxm hG rfl rfl rfl rfl rfl rfl rfl (by omega) ?_ | refine r_idx hG rfl rfl ?_)
      | (show AOp _ _ ⟨_, .slice _ _ _ _ _, _, _, _, _⟩ _ _ _; first | refine r_sl_lon hG rfl rfl rfl rfl rfl rfl rfl (by omega) ?_ | refine r_sl_hin hG rfl rfl rfl rfl rfl rfl rfl (by omega) ?_ | refine r_sl_lhn hG rfl rfl rfl rfl rfl rfl rfl rfl (by omega) ?_ | refine r_sl_lo hG rfl rfl rfl rfl rfl rfl rfl (by omega) ?_ | refine r_sl_hi hG rfl rfl rfl rfl rfl rfl rfl (by omega) ?_ | refine r_sl_lh hG rfl rfl rfl rfl rfl rfl rfl rfl (by omega) ?_ | refine op_cut0 hG rfl rfl rfl rfl rfl rfl rfl rfl rfl rfl ?_ | refine r_sl hG rfl rfl ?_)
      | (show AOp _ _ ⟨_, .pick _ _ _, _, _, _, _⟩ _ _ _; refine r_pick hG rfl rfl rfl ?_)
      | (show AOp _ _ ⟨_, .buildSlice _ _ _, _, _, _, _⟩ _ _ _; first | refine r_mk (sz := 1) hG rfl rfl rfl rfl rfl rfl rfl ?_ | refine r_mk (sz := 2) hG rfl rfl rfl rfl rfl rfl rfl ?_)
      | (show AOp _ _ ⟨_, .call ⟨.builtin .append, _, _⟩, _, _, _, _⟩ _ _ _; first | refine r_appm 0 (ys := [a.getD i default]) hG rfl rfl rfl rfl rfl rfl rfl ⟨_, rfl⟩ rfl rfl rfl rfl rfl (by simp only [List.length_append, List.length_map, List.length_cons, List.length_nil]; omega) (fun k => ?_) | refine r_app0m (sz := 1) (xs := []) hG rfl rfl rfl rfl rfl rfl rfl ⟨_, rfl⟩ rfl rfl rfl rfl rfl rfl rfl (by first | omega | (simp; omega)) (fun k => ?_) | refine r_appm 0 hG rfl rfl rfl rfl rfl rfl rfl ⟨_, rfl⟩ rfl rfl rfl rfl rfl (by first | omega | (simp only [List.length_append, List.length_cons, List.length_nil]; omega)) (fun k => ?_) | fail)
      | refine r_q hG rfl rfl rfl ?_); exact kk)
    | refine dq_d rfl rfl rfl (fun σ hσ K kt kf => by obtain ⟨R, rfl⟩ := hσ; exact r_cmp hG rfl rfl rfl rfl rfl kt kf) (fun h => ?_) (fun h => ?_)
    | refine dq_d rfl rfl rfl (fun σ hσ K kt kf => by obtain ⟨R, rfl⟩ := hσ; exact r_str hG rfl rfl rfl rfl kt kf) (fun h => ?_) (fun h => ?_)
    | refine dq_s rfl rfl rfl rfl ?_ | refine dq_e rfl ?_ | (refine dq_nil ?_; show EL _ _ _ _ _ _ _ _ _) | refine el_s ⟨_, rfl⟩ rfl rfl rfl rfl ?_
    | ((first | refine el_cons ⟨_, rfl⟩ rfl rfl rfl (fun K ke => ?_) | refine el_consN ⟨_, rfl⟩ rfl rfl rfl (fun K ke => ?_)); (first
      | (show AOp _ _ ⟨_, .move _, _, _, _, _⟩ _ _ _; refine r_move hG rfl rfl ?_)
      | (show AOp _ _ ⟨_, .assign _, _, _, _, _⟩ _ _ _; refine r_asg hG rfl rfl ?_)
      | (show AOp _ _ ⟨_, .call ⟨.builtin .len, _, _⟩, _, _, _, _⟩ _ _ _; first | refine r_lenm hG rfl rfl rfl rfl ?_ | refine r_len hG rfl rfl rfl rfl rfl ?_)
      | (show AOp _ _ ⟨_, .binOp .add _ _ _ _, _, _, _, _⟩ _ _ _; first | refine r_ari64 hG rfl rfl rfl rfl rfl (by omega) ?_ | refine r_aru64 hG rfl rfl rfl rfl rfl (by omega) ?_ | refine r_aru8 hG rfl rfl rfl rfl rfl (by omega) ?_ | refine r_aru16 hG rfl rfl rfl rfl rfl (by omega) ?_)
      | (show AOp _ _ ⟨_, .binOp _ _ _ _ _, _, _, _, _⟩ _ _ _; first | refine r_cmpT hG rfl rfl rfl rfl rfl (by omega) ?_ | refine r_cmpF hG rfl rfl rfl rfl rfl (by omega) ?_ | refine r_strT hG rfl rfl rfl rfl (by first | rfl | assumption) ?_ | refine r_strnF hG rfl rfl rfl rfl (by first | rfl | assumption) ?_ | refine r_strF hG rfl rfl rfl rfl (by assumption) ?_ | refine r_strnT hG rfl rfl rfl rfl (by assumption) ?_ | refine r_beq hG rfl rfl rfl rfl rfl ?_ | refine r_bin' hG rfl rfl rfl ?_)
      | (show AOp _ _ ⟨_, .load _ _, _, _, _, _⟩ _ _ _; first | refine r_ldro hG rfl rfl rfl ?_ | refine r_ld 0 hG rfl rfl rfl rfl ?_ | refine r_ld 1 hG rfl rfl rfl rfl ?_ | refine r_ld 2 hG rfl rfl rfl rfl ?_ | refine r_ld 3 hG rfl rfl rfl rfl ?_)
      | (show AOp _ _ ⟨_, .indexAddr _ _ _, _, _, _, _⟩ _ _ _; first | refine r_idx0 hG rfl rfl rfl rfl rfl rfl rfl ?_ | refine r_idxn hG rfl rfl rfl rfl rfl rfl rfl (by omega) ?_ | refine r_idxm hG rfl rfl rfl rfl rfl rfl rfl (by omega) ?_ | refine r_idx hG rfl rfl ?_)
      | (show AOp _ _ ⟨_, .slice _ _ _ _ _, _, _, _, _⟩ _ _ _; first | refine r_sl_lon hG rfl rfl rfl rfl rfl rfl rfl (by omega) ?_ | refine r_sl_hin hG rfl rfl rfl rfl rfl rfl rfl (by omega) ?_ | refine r_sl_lhn hG rfl rfl rfl rfl rfl rfl rfl rfl (by omega) ?_ | refine r_sl_lo hG rfl rfl rfl rfl rfl rfl rfl (by omega) ?_ | refine r_sl_hi hG rfl rfl rfl rfl rfl rfl rfl (by omega) ?_ | refine r_sl_lh hG rfl rfl rfl rfl rfl rfl rfl rfl (by omega) ?_ | refine op_cut0 hG rfl rfl rfl rfl rfl rfl rfl rfl rfl rfl ?_ | refine r_sl hG rfl rfl ?_)
      | (show AOp _ _ ⟨_, .pick _ _ _, _, _, _, _⟩ _ _ _; refine r_pick hG rfl rfl rfl ?_)
      | (show AOp _ _ ⟨_, .buildSlice _ _ _, _, _, _, _⟩ _ _ _; first | refine r_mk (sz := 1) hG rfl rfl rfl rfl rfl rfl rfl ?_ | refine r_mk (sz := 2) hG rfl rfl rfl rfl rfl rfl rfl ?_)
      | (show AOp _ _ ⟨_, .call ⟨.builtin .append, _, _⟩, _, _, _, _⟩ _ _ _; first | refine r_appm 0 (ys := [a.getD i default]) hG rfl rfl rfl rfl rfl rfl rfl ⟨_, rfl⟩ rfl rfl rfl rfl rfl (by simp only [List.length_append, List.length_map, List.length_cons, List.length_nil]; omega) (fun k => ?_) | refine r_app0m (sz := 1) (xs := []) hG rfl rfl rfl rfl rfl rfl rfl ⟨_, rfl⟩ rfl rfl rfl rfl rfl rfl rfl (by first | omega | (simp; omega)) (fun k => ?_) | refine r_appm 0 hG rfl rfl rfl rfl rfl rfl rfl ⟨_, rfl⟩ rfl rfl rfl rfl rfl (by first | omega | (simp only [List.length_append, List.length_cons, List.length_nil]; omega)) (fun k => ?_) | fail)
      | refine r_q hG rfl rfl rfl ?_); refine ke _ _ ?_)
    | (refine el_nil ⟨_, rfl⟩ ?_; show AL _ _ _ _ _ _ _ _) | fail)
      repeat' (first
    | ((first | (show AL _ _ _ _ _ _ _ _; refine al_cons rfl ?_) | (show DL _ _ _ _ _ _ _; refine' dl_cons rfl rfl (fun K kk => ?_) ?_; try (show Go.Ts.T; rotate_left))); (first
      | (show AOp _ _ ⟨_, .move _, _, _, _, _⟩ _ _ _; refine r_move hG rfl rfl ?_)
      | (show AOp _ _ ⟨_, .assign _, _, _, _, _⟩ _ _ _; refine r_asg hG rfl rfl ?_)
      | (show AOp _ _ ⟨_, .call ⟨.builtin .len, _, _⟩, _, _, _, _⟩ _ _ _; first | refine r_lenm hG rfl rfl rfl rfl ?_ | refine r_len hG rfl rfl rfl rfl rfl ?_)
      | (show AOp _ _ ⟨_, .binOp .add _ _ _ _, _, _, _, _⟩ _ _ _; first | refine r_ari64 hG rfl rfl rfl rfl rfl (by omega) ?_ | refine r_aru64 hG rfl rfl rfl rfl rfl (by omega) ?_ | refine r_aru8 hG rfl rfl rfl rfl rfl (by omega) ?_ | refine r_aru16 hG rfl rfl rfl rfl rfl (by omega) ?_)
      | (show AOp _ _ ⟨_, .binOp _ _ _ _ _, _, _, _, _⟩ _ _ _; first | refine r_cmpT hG rfl rfl rfl rfl rfl (by omega) ?_ | refine r_cmpF hG rfl rfl rfl rfl rfl (by omega) ?_ | refine r_strT hG rfl rfl rfl rfl (by first | rfl | assumption) ?_ | refine r_strnF hG rfl rfl rfl rfl (by first | rfl | assumption) ?_ | refine r_strF hG rfl rfl rfl rfl (by assumption) ?_ | refine r_strnT hG rfl rfl rfl rfl (by assumption) ?_ | ((fail_if_success have := kk); refine r_cmp hG rfl rfl rfl rfl rfl (fun h => ?_) (fun h => ?_)) | ((fail_if_success have := kk); first | refine r_str hG rfl rfl rfl rfl (fun h => ?_) (fun h => ?_) | refine r_strn hG rfl rfl rfl rfl (fun h => ?_) (fun h => ?_)) | refine r_beq hG rfl rfl rfl rfl rfl ?_ | refine r_bin' hG rfl rfl rfl ?_)
      | (show AOp _ _ ⟨_, .load _ _, _, _, _, _⟩ _ _ _; first | refine r_ldro hG rfl rfl rfl ?_ | refine r_ld 0 hG rfl rfl rfl rfl ?_ | refine r_ld 1 hG rfl rfl rfl rfl ?_ | refine r_ld 2 hG rfl rfl rfl rfl ?_ | refine r_ld 3 hG rfl rfl rfl rfl ?_)
      | (show AOp _ _ ⟨_, .indexAddr _ _ _, _, _, _, _⟩ _ _ _; first | refine r_idx0 hG rfl rfl rfl rfl rfl rfl rfl ?_ | refine r_idxn hG rfl rfl rfl rfl rfl rfl rfl (by omega) ?_ | refine r_idxm hG rfl rfl rfl rfl rfl rfl rfl (by omega) ?_ | refine r_idx hG rfl rfl ?_)
      | (show AOp _ _ ⟨_, .slice _ _ _ _ _, _, _, _, _⟩ _ _ _; first | refine r_sl_lon hG rfl rfl rfl rfl rfl rfl rfl (by omega) ?_ | refine r_sl_hin hG rfl rfl rfl rfl rfl rfl rfl (by omega) ?_ | refine r_sl_lhn hG rfl rfl rfl rfl rfl rfl rfl rfl (by omega) ?_ | refine r_sl_lo hG rfl rfl rfl rfl rfl rfl rfl (by omega) ?_ | refine r_sl_hi hG rfl rfl rfl rfl rfl rfl rfl (by omega) ?_ | refine r_sl_lh hG rfl rfl rfl rfl rfl rfl rfl rfl (by omega) ?_ | refine op_cut0 hG rfl rfl rfl rfl rfl rfl rfl rfl rfl rfl ?_ | refine r_sl hG rfl rfl ?_)
      | (show AOp _ _ ⟨_, .pick _ _ _, _, _, _, _⟩ _ _ _; refine r_pick hG rfl rfl rfl ?_)
      | (show AOp _ _ ⟨_, .buildSlice _ _ _, _, _, _, _⟩ _ _ _; first | refine r_mk (sz := 1) hG rfl rfl rfl rfl rfl rfl rfl ?_ | refine r_mk (sz := 2) hG rfl rfl rfl rfl rfl rfl rfl ?_)
      | (show AOp _ _ ⟨_, .call ⟨.builtin .append, _, _⟩, _, _, _, _⟩ _ _ _; first | refine r_app0m (sz := 1) (xs := []) hG rfl rfl rfl rfl rfl rfl rfl ⟨_, rfl⟩ rfl rfl rfl rfl rfl rfl rfl (by first | omega | (simp; omega)) (fun k => ?_) | refine r_appm 0 hG rfl rfl rfl rfl rfl rfl rfl ⟨_, rfl⟩ rfl rfl rfl rfl rfl (by first | omega | (simp only [List.length_append, List.length_cons, List.length_nil]; omega)) (fun k => ?_) | fail)
      | refine r_q hG rfl rfl rfl ?_); try exact kk)
    | (show AL _ _ _ _ _ _ _ _; first | refine al_s rfl rfl rfl ?_ | (refine al_nil ?_; first | show AW _ _ _ _ _ _ | show ∃ x', _ < _ ∧ _)) | (show AW _ _ (.seq _ _) _ _ _; refine aw_seq' ?_; intro Q1) | (show AW _ _ (.region _ _ false) _ _ _; refine aw_regL' ?_; intro O1) | (show AW _ _ (.cond _ _ _) _ _ _; first | refine aw_if_t rfl ?_ | refine aw_if_f rfl ?_) | (show AW _ _ (.skip) _ _ _; refine aw_skip ?_; first | show AW _ _ _ _ _ _ | show ∃ x', _ < _ ∧ _) | (show AW _ _ (.block _ _) _ _ _; refine aw_block' ?_; intro Q1) | (show AW _ _ (.exit _) _ _ _; refine aw_exit ?_; first | show AW _ _ _ _ _ _ | show ∃ x', _ < _ ∧ _) | (show AW _ _ (.ret) _ _ _; refine aw_ret ?_; try dsimp only [thenA, inBlockA, jumpA, noGotoA])
    | (show DL _ _ _ _ _ _ _; refine dl_d rfl rfl (fun K kt kf => r_cmp hG rfl rfl rfl rfl rfl kt kf) (fun h => ?_) (fun h => ?_)) | (show DL _ _ _ _ _ _ _; refine dl_d rfl rfl (fun K kt kf => r_str hG rfl rfl rfl rfl kt kf) (fun h => ?_) (fun h => ?_)) | (show DL _ _ _ _ _ _ _; refine dl_ne rfl rfl (fun K kt kf => r_strn hG rfl rfl rfl rfl kt kf) (fun h => ?_) (fun h => ?_))
    | (show DL _ _ _ _ _ _ _; refine dl_s rfl rfl rfl ?_) | (show DL _ _ _ _ _ _ _; refine dl_nil ?_; first | show AW _ _ _ _ _ _ | show ∃ x', _ < _ ∧ _) | (show AW _ _ (.region _ _ true) _ _ _; refine aw_draw' mix (by kernel_rfl) ?_; intro O1) | fail)
      refine ⟨⟨i + 1, _, by omega⟩, by dsimp only; omega, ?_, drop_tok⟩
      exact .cons rfl (.consW rfl (.int (by simp)) (.consW rfl (.eq (by rw [hnew, hi2]; simp)) (.nil _)))
  · obtain rfl : i = a.length := by omega
    repeat' (first
    | ((first | (show AL _ _ _ _ _ _ _ _; refine al_cons rfl ?_) | (show DL _ _ _ _ _ _ _; refine' dl_cons rfl rfl (fun K kk => ?_) ?_; try (show Go.Ts.T; rotate_left))); (first
      | (show AOp _ _ ⟨_, .move _, _, _, _, _⟩ _ _ _; refine r_move hG rfl rfl ?_)
      | (show AOp _ _ ⟨_, .assign _, _, _, _, _⟩ _ _ _; refine r_asg hG rfl rfl ?_)
      | (show AOp _ _ ⟨_, .call ⟨.builtin .len, _, _⟩, _, _, _, _⟩ _ _ _; first | refine r_lenm hG rfl rfl rfl rfl ?_ | refine r_len hG rfl rfl rfl rfl rfl ?_)
      | (show AOp _ _ ⟨_, .binOp .add _ _ _ _, _, _, _, _⟩ _ _ _; first | refine r_ari64 hG rfl rfl rfl rfl rfl (by omega) ?_ | refine r_aru64 hG rfl rfl rfl rfl rfl (by omega) ?_ | refine r_aru8 hG rfl rfl rfl rfl rfl (by omega) ?_ | refine r_aru16 hG rfl rfl rfl rfl rfl (by omega) ?_)
      | (show AOp _ _ ⟨_, .binOp _ _ _ _ _, _, _, _, _⟩ _ _ _; first | refine r_cmpT hG rfl rfl rfl rfl rfl (by omega) ?_ | refine r_cmpF hG rfl rfl rfl rfl rfl (by omega) ?_ | refine r_strT hG rfl rfl rfl rfl (by first | rfl | assumption) ?_ | refine r_strnF hG rfl rfl rfl rfl (by first | rfl | assumption) ?_ | refine r_strF hG rfl rfl rfl rfl (by assumption) ?_ | refine r_strnT hG rfl rfl rfl rfl (by assumption) ?_ | ((fail_if_success have := kk); refine r_cmp hG rfl rfl rfl rfl rfl (fun h => ?_) (fun h => ?_)) | ((fail_if_success have := kk); first | refine r_str hG rfl rfl rfl rfl (fun h => ?_) (fun h => ?_) | refine r_strn hG rfl rfl rfl rfl (fun h => ?_) (fun h => ?_)) | refine r_beq hG rfl rfl rfl rfl rfl ?_ | refine r_bin' hG rfl rfl rfl ?_)
      | (show AOp _ _ ⟨_, .load _ _, _, _, _, _⟩ _ _ _; first | refine r_ldro hG rfl rfl rfl ?_ | refine r_ld 0 hG rfl rfl rfl rfl ?_ | refine r_ld 1 hG rfl rfl rfl rfl ?_ | refine r_ld 2 hG rfl rfl rfl rfl ?_ | refine r_ld 3 hG rfl rfl rfl rfl ?_)
      | (show AOp _ _ ⟨_, .indexAddr _ _ _, _, _, _, _⟩ _ _ _; first | refine r_idx0 hG rfl rfl rfl rfl rfl rfl rfl ?_ | refine r_idxn hG rfl rfl rfl rfl rfl rfl rfl (by omega) ?_ | refine r_idxm hG rfl rfl rfl rfl rfl rfl rfl (by omega) ?_ | refine r_idx hG rfl rfl ?_)
      | (show AOp _ _ ⟨_, .slice _ _ _ _ _, _, _, _, _⟩ _ _ _; first | refine r_sl_lon hG rfl rfl rfl rfl rfl rfl rfl (by omega) ?_ | refine r_sl_hin hG rfl rfl rfl rfl rfl rfl rfl (by omega) ?_ | refine r_sl_lhn hG rfl rfl rfl rfl rfl rfl rfl rfl (by omega) ?_ | refine r_sl_lo hG rfl rfl rfl rfl rfl rfl rfl (by omega) ?_ | refine r_sl_hi hG rfl rfl rfl rfl rfl rfl rfl (by omega) ?_ | refine r_sl_lh hG rfl rfl rfl rfl rfl rfl rfl rfl (by omega) ?_ | refine op_cut0 hG rfl rfl rfl rfl rfl rfl rfl rfl rfl rfl ?_ | refine r_sl hG rfl rfl ?_)
      | (show AOp _ _ ⟨_, .pick _ _ _, _, _, _, _⟩ _ _ _; refine r_pick hG rfl rfl rfl ?_)
      | (show AOp _ _ ⟨_, .buildSlice _ _ _, _, _, _, _⟩ _ _ _; first | refine r_mk (sz := 1) hG rfl rfl rfl rfl rfl rfl rfl ?_ | refine r_mk (sz := 2) hG rfl rfl rfl rfl rfl rfl rfl ?_)
      | (show AOp _ _ ⟨_, .call ⟨.builtin .append, _, _⟩, _, _, _, _⟩ _ _ _; first | refine r_app0m (sz := 1) (xs := []) hG rfl rfl rfl rfl rfl rfl rfl ⟨_, rfl⟩ rfl rfl rfl rfl rfl rfl rfl (by first | omega | (simp; omega)) (fun k => ?_) | refine r_appm 0 hG rfl rfl rfl rfl rfl rfl rfl ⟨_, rfl⟩ rfl rfl rfl rfl rfl (by first | omega | (simp only [List.length_append, List.length_cons, List.length_nil]; omega)) (fun k => ?_) | fail)
      | refine r_q hG rfl rfl rfl ?_); try exact kk)
    | (show AL _ _ _ _ _ _ _ _; first | refine al_s rfl rfl rfl ?_ | (refine al_nil ?_; first | show AW _ _ _ _ _ _ | show ∃ x', _ < _ ∧ _)) | (show AW _ _ (.seq _ _) _ _ _; refine aw_seq' ?_; intro Q1) | (show AW _ _ (.region _ _ false) _ _ _; refine aw_regL' ?_; intro O1) | (show AW _ _ (.cond _ _ _) _ _ _; first | refine aw_if_t rfl ?_ | refine aw_if_f rfl ?_) | (show AW _ _ (.skip) _ _ _; refine aw_skip ?_; first | show AW _ _ _ _ _ _ | show ∃ x', _ < _ ∧ _) | (show AW _ _ (.block _ _) _ _ _; refine aw_block' ?_; intro Q1) | (show AW _ _ (.exit _) _ _ _; refine aw_exit ?_; first | show AW _ _ _ _ _ _ | show ∃ x', _ < _ ∧ _) | (show AW _ _ (.ret) _ _ _; refine aw_ret ?_; try dsimp only [thenA, inBlockA, jumpA, noGotoA])
    | (show DL _ _ _ _ _ _ _; refine dl_d rfl rfl (fun K kt kf => r_cmp hG rfl rfl rfl rfl rfl kt kf) (fun h => ?_) (fun h => ?_)) | (show DL _ _ _ _ _ _ _; refine dl_d rfl rfl (fun K kt kf => r_str hG rfl rfl rfl rfl kt kf) (fun h => ?_) (fun h => ?_)) | (show DL _ _ _ _ _ _ _; refine dl_ne rfl rfl (fun K kt kf => r_strn hG rfl rfl rfl rfl kt kf) (fun h => ?_) (fun h => ?_))
    | (show DL _ _ _ _ _ _ _; refine dl_s rfl rfl rfl ?_) | (show DL _ _ _ _ _ _ _; refine dl_nil ?_; first | show AW _ _ _ _ _ _ | show ∃ x', _ < _ ∧ _) | (show AW _ _ (.region _ _ true) _ _ _; refine aw_draw' mix (by kernel_rfl) ?_; intro O1) | fail)
    exact ret_owns 0 (res_tmp rfl res_nil) rfl (by rw [List.take_length]) rfl
theorem ref_Or {x y : T} {a b : List UInt16} (hx : catsT x = some a) (hy : catsT y = some b) (hl : a.length + b.length ≤ 4294967000) : Owns Try.prog 64 [x, y] 1 ((mk (a ++ b)).map hT) := by
  refine Owns.weak (us := [cT a, cT b]) ?_ (wk2 (catsT_wk hx) (catsT_wk hy))
  intro off
  refine acalls_mk (N := 11) (rs := [.tmp 4]) hG Try.func64 rfl rfl rfl rfl rfl ?_
  repeat' (first
    | ((show AL _ _ _ _ _ _ _ _; refine al_cons rfl ?_); (first
      | (show AOp _ _ ⟨_, .move _, _, _, _, _⟩ _ _ _; refine r_move hG rfl rfl ?_)
      | (show AOp _ _ ⟨_, .assign _, _, _, _, _⟩ _ _ _; refine r_asg hG rfl rfl ?_)
      | (show AOp _ _ ⟨_, .buildSlice _ _ _, _, _, _, _⟩ _ _ _; first | refine r_mk (sz := 1) hG rfl rfl rfl rfl rfl rfl rfl ?_ | refine r_mk (sz := 2) hG rfl rfl rfl rfl rfl rfl rfl ?_)
      | (show AOp _ _ ⟨_, .call ⟨.builtin .append, _, _⟩, _, _, _, _⟩ _ _ _; first | refine r_app0m (sz := 1) (xs := []) hG rfl rfl rfl rfl rfl rfl rfl ⟨_, rfl⟩ rfl rfl rfl rfl rfl rfl rfl (by first | omega | (simp; omega)) (fun k => ?_) | refine r_appm 0 hG rfl rfl rfl rfl rfl rfl rfl ⟨_, rfl⟩ rfl rfl rfl rfl rfl (by first | omega | (simp only [List.length_append, List.length_cons, List.length_nil]; omega)) (fun k => ?_) | fail)
      | refine r_q hG rfl rfl rfl ?_))
    | (show AL _ _ _ _ _ _ _ _; first | refine al_s rfl rfl rfl ?_ | (refine al_nil ?_; first | show AW _ _ _ _ _ _ | show ∃ x', _ < _ ∧ _)) | (show AW _ _ (.seq _ _) _ _ _; refine aw_seq' ?_; intro Q1) | (show AW _ _ (.region _ _ false) _ _ _; refine aw_regL' ?_; intro O1) | (show AW _ _ (.ret) _ _ _; refine aw_ret ?_; try dsimp only [thenA, inBlockA, jumpA, noGotoA]) | fail)
  have hc := ref_Make (x := .sl 1 (.tok k) (([] ++ a ++ b).map hT)) (catsT_map _ _) (by simp; omega)
  repeat' (first
    | ((show AL _ _ _ _ _ _ _ _; refine al_cons rfl ?_); (first
      | (show AOp _ _ ⟨_, .move _, _, _, _, _⟩ _ _ _; refine r_move hG rfl rfl ?_)
      | (show AOp _ _ ⟨_, .assign _, _, _, _, _⟩ _ _ _; refine r_asg hG rfl rfl ?_)
      | (show AOp _ _ ⟨_, .buildSlice _ _ _, _, _, _, _⟩ _ _ _; first | refine r_mk (sz := 1) hG rfl rfl rfl rfl rfl rfl rfl ?_ | refine r_mk (sz := 2) hG rfl rfl rfl rfl rfl rfl rfl ?_)
      | (show AOp _ _ ⟨_, .call ⟨.builtin .append, _, _⟩, _, _, _, _⟩ _ _ _; first | refine r_app0m (sz := 1) (xs := []) hG rfl rfl rfl rfl rfl rfl rfl ⟨_, rfl⟩ rfl rfl rfl rfl rfl rfl rfl (by first | omega | (simp; omega)) (fun k => ?_) | refine r_appm 0 hG rfl rfl rfl rfl rfl rfl rfl ⟨_, rfl⟩ rfl rfl rfl rfl rfl (by first | omega | (simp only [List.length_append, List.length_cons, List.length_nil]; omega)) (fun k => ?_) | fail)
      | (show AOp _ _ ⟨_, .call ⟨.value _, _, _⟩, _, _, _, _⟩ _ _ _; first | (refine r_owns rfl rfl rfl rfl rfl (by apply hc <;> (first | assumption | omega | exact bytesT_map _ _ | exact bytesT_s _ | exact catsT_map _ _ | exact catsT_c _ | rfl | (simp; omega))) (fun k => ?_)) | (have := kk; clear this; refine r_pure rfl rfl rfl rfl rfl (Owns.pure (by apply hc <;> (first | assumption | omega | exact bytesT_map _ _ | exact bytesT_s _ | exact catsT_map _ _ | exact catsT_c _ | rfl | (simp; omega)))) ?_) | fail)
      | refine r_q hG rfl rfl rfl ?_))
    | (show AL _ _ _ _ _ _ _ _; first | refine al_s rfl rfl rfl ?_ | (refine al_nil ?_; first | show AW _ _ _ _ _ _ | show ∃ x', _ < _ ∧ _)) | (show AW _ _ (.seq _ _) _ _ _; refine aw_seq' ?_; intro Q1) | (show AW _ _ (.region _ _ false) _ _ _; refine aw_regL' ?_; intro O1) | (show AW _ _ (.ret) _ _ _; refine aw_ret ?_; try dsimp only [thenA, inBlockA, jumpA, noGotoA]) | fail)
  exact ret_owns 0 (res_tmp rfl res_nil) rfl rfl rfl
end Go.Proofs.Ytholeicgmkjadaa
namespace Go.Proofs.Ytholeicgmkjadaa
open Go.Ts Go.Sets
attribute [local irreducible] Go.Ts.AW Go.Ts.AOps Go.Ts.AL Go.Ts.AOp Go.Ts.ACalls Go.Ts.DL Go.Ts.DQ Go.Ts.EL
theorem putI1 (n : Nat) : putI n 1 = [UInt8.ofNat n] := by rw [putI, if_pos (by omega)]; simp [be]
theorem ref_PutSet {x y : T} {b : List UInt8} {a : List UInt16} (hx : bytesT x = some b) (hy : catsT y = some a) (hl : b.length ≤ 4294000000) (hs : a.length ≤ 255) :
    Owns Try.prog 24 [x, y] 1 ((putC b a).map bT) := by
  refine Owns.weak (us := [sT b, cT a]) ?_ (wk2 (bytesT_wk hx) (catsT_wk hy))
  intro off
  refine acalls_mk (N := 28) (rs := [.tmp 4]) hG Try.func24 rfl rfl rfl rfl rfl ?_
  repeat' (first
    | ((show AL _ _ _ _ _ _ _ _; refine al_cons rfl ?_); (first
      | (show AOp _ _ ⟨_, .move _, _, _, _, _⟩ _ _ _; refine r_move hG rfl rfl ?_)
      | (show AOp _ _ ⟨_, .assign _, _, _, _, _⟩ _ _ _; refine r_asg hG rfl rfl ?_)
      | (show AOp _ _ ⟨_, .call ⟨.builtin .len, _, _⟩, _, _, _, _⟩ _ _ _; first | refine r_lenm hG rfl rfl rfl rfl ?_ | refine r_len hG rfl rfl rfl rfl rfl ?_)
      | (show AOp _ _ ⟨_, .binOp .add _ _ _ _, _, _, _, _⟩ _ _ _; first | refine r_ari64 hG rfl rfl rfl rfl rfl (by omega) ?_ | refine r_aru64 hG rfl rfl rfl rfl rfl (by omega) ?_ | refine r_aru8 hG rfl rfl rfl rfl rfl (by omega) ?_ | refine r_aru16 hG rfl rfl rfl rfl rfl (by omega) ?_)
      | (show AOp _ _ ⟨_, .binOp _ _ _ _ _, _, _, _, _⟩ _ _ _; first | refine r_cmpT hG rfl rfl rfl rfl rfl (by omega) ?_ | refine r_cmpF hG rfl rfl rfl rfl rfl (by omega) ?_ | refine r_strT hG rfl rfl rfl rfl (by first | rfl | assumption) ?_ | refine r_strnF hG rfl rfl rfl rfl (by first | rfl | assumption) ?_ | refine r_strF hG rfl rfl rfl rfl (by assumption) ?_ | refine r_strnT hG rfl rfl rfl rfl (by assumption) ?_ | (refine r_cmp hG rfl rfl rfl rfl rfl (fun h => ?_) (fun h => ?_)) | (first | refine r_str hG rfl rfl rfl rfl (fun h => ?_) (fun h => ?_) | refine r_strn hG rfl rfl rfl rfl (fun h => ?_) (fun h => ?_)) | refine r_beq hG rfl rfl rfl rfl rfl ?_ | refine r_bin' hG rfl rfl rfl ?_)
      | (show AOp _ _ ⟨_, .load _ _, _, _, _, _⟩ _ _ _; first | refine r_ldro hG rfl rfl rfl ?_ | refine r_ld 0 hG rfl rfl rfl rfl ?_ | refine r_ld 1 hG rfl rfl rfl rfl ?_ | refine r_ld 2 hG rfl rfl rfl rfl ?_ | refine r_ld 3 hG rfl rfl rfl rfl ?_)
      | (show AOp _ _ ⟨_, .indexAddr _ _ _, _, _, _, _⟩ _ _ _; first | refine r_idx0 hG rfl rfl rfl rfl rfl rfl rfl ?_ | refine r_idxn hG rfl rfl rfl rfl rfl rfl rfl (by omega) ?_ | refine r_idxm hG rfl rfl rfl rfl rfl rfl rfl (by omega) ?_ | refine r_idx hG rfl rfl ?_)
      | (show AOp _ _ ⟨_, .convert _ _ _, _, _, _, _⟩ _ _ _; first | refine r_tostr hG rfl rfl rfl rfl rfl rfl rfl rfl (by first | exact bytesT_map _ _ | exact bytesT_s _ | rfl) ?_ | refine r_cv8 hG rfl rfl rfl rfl rfl rfl ?_ | refine r_cv16 hG rfl rfl rfl rfl rfl rfl ?_ | refine r_cv_i64 hG rfl rfl rfl rfl rfl (by omega) ?_ | refine r_cv_u64 hG rfl rfl rfl rfl rfl (by omega) ?_ | refine r_cv_u8 hG rfl rfl rfl rfl rfl (by omega) ?_ | refine r_cv_u16 hG rfl rfl rfl rfl rfl (by omega) ?_ | refine r_cvw hG rfl rfl rfl rfl rfl ?_)
      | (show AOp _ _ ⟨_, .buildSlice _ _ _, _, _, _, _⟩ _ _ _; first | refine r_mk (sz := 1) hG rfl rfl rfl rfl rfl rfl rfl ?_ | refine r_mk (sz := 2) hG rfl rfl rfl rfl rfl rfl rfl ?_)
      | (show AOp _ _ ⟨_, .call ⟨.builtin .append, _, _⟩, _, _, _, _⟩ _ _ _; first | refine r_app0m (sz := 1) (xs := []) hG rfl rfl rfl rfl rfl rfl rfl ⟨_, rfl⟩ rfl rfl rfl rfl rfl rfl rfl (by first | omega | (simp; omega)) (fun k => ?_) | refine r_appm 0 hG rfl rfl rfl rfl rfl rfl rfl ⟨_, rfl⟩ rfl rfl rfl rfl rfl (by first | omega | (simp only [List.length_append, List.length_cons, List.length_nil]; omega)) (fun k => ?_) | fail)
      | refine r_q hG rfl rfl rfl ?_))
    | (show AL _ _ _ _ _ _ _ _; first | refine al_s rfl rfl rfl ?_ | (refine al_nil ?_; first | show AW _ _ _ _ _ _ | show ∃ x', _ < _ ∧ _)) | (show AW _ _ (.seq _ _) _ _ _; refine aw_seq' ?_; intro Q1) | (show AW _ _ (.region _ _ false) _ _ _; refine aw_regL' ?_; intro O1) | (show AW _ _ (.cond _ _ _) _ _ _; first | refine aw_if_t rfl ?_ | refine aw_if_f rfl ?_) | (show AW _ _ (.skip) _ _ _; refine aw_skip ?_; first | show AW _ _ _ _ _ _ | show ∃ x', _ < _ ∧ _) | (show AW _ _ (.block _ _) _ _ _; refine aw_block' ?_; intro Q1) | (show AW _ _ (.exit _) _ _ _; refine aw_exit ?_; first | show AW _ _ _ _ _ _ | show ∃ x', _ < _ ∧ _) | (show AW _ _ (.ret) _ _ _; refine aw_ret ?_; try dsimp only [thenA, inBlockA, jumpA, noGotoA]) | fail)
  have hb1 : T.int .u8 (a.length : Int) = bT (UInt8.ofNat a.length) := by
    unfold bT; congr 1; simp; omega
  refine al_cons rfl (r_appm 0 (ys := [UInt8.ofNat a.length]) hG rfl rfl rfl rfl rfl rfl rfl ⟨_, rfl⟩ rfl rfl rfl rfl (congrArg (fun t => [t]) hb1) (by simp; omega) (fun k' => ?_))
  repeat' (first
    | ((show AL _ _ _ _ _ _ _ _; refine al_cons rfl ?_); (first
      | (show AOp _ _ ⟨_, .move _, _, _, _, _⟩ _ _ _; refine r_move hG rfl rfl ?_)
      | (show AOp _ _ ⟨_, .assign _, _, _, _, _⟩ _ _ _; refine r_asg hG rfl rfl ?_)
      | (show AOp _ _ ⟨_, .call ⟨.builtin .len, _, _⟩, _, _, _, _⟩ _ _ _; first | refine r_lenm hG rfl rfl rfl rfl ?_ | refine r_len hG rfl rfl rfl rfl rfl ?_)
      | (show AOp _ _ ⟨_, .binOp .add _ _ _ _, _, _, _, _⟩ _ _ _; first | refine r_ari64 hG rfl rfl rfl rfl rfl (by omega) ?_ | refine r_aru64 hG rfl rfl rfl rfl rfl (by omega) ?_ | refine r_aru8 hG rfl rfl rfl rfl rfl (by omega) ?_ | refine r_aru16 hG rfl rfl rfl rfl rfl (by omega) ?_)
      | (show AOp _ _ ⟨_, .binOp _ _ _ _ _, _, _, _, _⟩ _ _ _; first | refine r_cmpT hG rfl rfl rfl rfl rfl (by omega) ?_ | refine r_cmpF hG rfl rfl rfl rfl rfl (by omega) ?_ | refine r_strT hG rfl rfl rfl rfl (by first | rfl | assumption) ?_ | refine r_strnF hG rfl rfl rfl rfl (by first | rfl | assumption) ?_ | refine r_strF hG rfl rfl rfl rfl (by assumption) ?_ | refine r_strnT hG rfl rfl rfl rfl (by assumption) ?_ | (refine r_cmp hG rfl rfl rfl rfl rfl (fun h => ?_) (fun h => ?_)) | (first | refine r_str hG rfl rfl rfl rfl (fun h => ?_) (fun h => ?_) | refine r_strn hG rfl rfl rfl rfl (fun h => ?_) (fun h => ?_)) | refine r_beq hG rfl rfl rfl rfl rfl ?_ | refine r_bin' hG rfl rfl rfl ?_)
      | (show AOp _ _ ⟨_, .load _ _, _, _, _, _⟩ _ _ _; first | refine r_ldro hG rfl rfl rfl ?_ | refine r_ld 0 hG rfl rfl rfl rfl ?_ | refine r_ld 1 hG rfl rfl rfl rfl ?_ | refine r_ld 2 hG rfl rfl rfl rfl ?_ | refine r_ld 3 hG rfl rfl rfl rfl ?_)
      | (show AOp _ _ ⟨_, .indexAddr _ _ _, _, _, _, _⟩ _ _ _; first | refine r_idx0 hG rfl rfl rfl rfl rfl rfl rfl ?_ | refine r_idxn hG rfl rfl rfl rfl rfl rfl rfl (by omega) ?_ | refine r_idxm hG rfl rfl rfl rfl rfl rfl rfl (by omega) ?_ | refine r_idx hG rfl rfl ?_)
      | (show AOp _ _ ⟨_, .convert _ _ _, _, _, _, _⟩ _ _ _; first | refine r_tostr hG rfl rfl rfl rfl rfl rfl rfl rfl (by first | exact bytesT_map _ _ | exact bytesT_s _ | rfl) ?_ | refine r_cv8 hG rfl rfl rfl rfl rfl rfl ?_ | refine r_cv16 hG rfl rfl rfl rfl rfl rfl ?_ | refine r_cv_i64 hG rfl rfl rfl rfl rfl (by omega) ?_ | refine r_cv_u64 hG rfl rfl rfl rfl rfl (by omega) ?_ | refine r_cv_u8 hG rfl rfl rfl rfl rfl (by omega) ?_ | refine r_cv_u16 hG rfl rfl rfl rfl rfl (by omega) ?_ | refine r_cvw hG rfl rfl rfl rfl rfl ?_)
      | (show AOp _ _ ⟨_, .buildSlice _ _ _, _, _, _, _⟩ _ _ _; first | refine r_mk (sz := 1) hG rfl rfl rfl rfl rfl rfl rfl ?_ | refine r_mk (sz := 2) hG rfl rfl rfl rfl rfl rfl rfl ?_)
      | (show AOp _ _ ⟨_, .call ⟨.builtin .append, _, _⟩, _, _, _, _⟩ _ _ _; first | refine r_app0m (sz := 1) (xs := []) hG rfl rfl rfl rfl rfl rfl rfl ⟨_, rfl⟩ rfl rfl rfl rfl rfl rfl rfl (by first | omega | (simp; omega)) (fun k => ?_) | refine r_appm 0 hG rfl rfl rfl rfl rfl rfl rfl ⟨_, rfl⟩ rfl rfl rfl rfl rfl (by first | omega | (simp only [List.length_append, List.length_cons, List.length_nil]; omega)) (fun k => ?_) | fail)
      | refine r_q hG rfl rfl rfl ?_))
    | (show AL _ _ _ _ _ _ _ _; first | refine al_s rfl rfl rfl ?_ | (refine al_nil ?_; first | show AW _ _ _ _ _ _ | show ∃ x', _ < _ ∧ _)) | (show AW _ _ (.seq _ _) _ _ _; refine aw_seq' ?_; intro Q1) | (show AW _ _ (.region _ _ false) _ _ _; refine aw_regL' ?_; intro O1) | (show AW _ _ (.cond _ _ _) _ _ _; first | refine aw_if_t rfl ?_ | refine aw_if_f rfl ?_) | (show AW _ _ (.skip) _ _ _; refine aw_skip ?_; first | show AW _ _ _ _ _ _ | show ∃ x', _ < _ ∧ _) | (show AW _ _ (.block _ _) _ _ _; refine aw_block' ?_; intro Q1) | (show AW _ _ (.exit _) _ _ _; refine aw_exit ?_; first | show AW _ _ _ _ _ _ | show ∃ x', _ < _ ∧ _) | (show AW _ _ (.ret) _ _ _; refine aw_ret ?_; try dsimp only [thenA, inBlockA, jumpA, noGotoA]) | fail)
  refine aw_loop (X := CPX a) (fun x => [(1, cT a), (5, .int .i64 x.i), (0, .sl 1 (.tok x.k) ((b ++ putI a.length 1 ++ (a.take x.i).flatMap fun c => putI c.toNat 2).map bT))]) (fun x => ⟨[], [x.k], off, none⟩) (fun x => a.length - x.i) ⟨0, k', Nat.zero_le _⟩ ?_ (.refl _) ?_
  · exact .cons rfl (.consW rfl (.int rfl) (.consW rfl (.eq (by rw [putI1]; simp)) (.nil _)))
  rintro ⟨i, k, hi⟩
  dsimp only
  have hpl := putI_le a.length 1
  have hf := flat2_length (a.take i)
  have htl : (a.take i).length = i := by rw [List.length_take]; omega
  by_cases hib : i < a.length
  · have hft := flatMap_take a (fun c => putI c.toNat 2) i hib
    have hlen : (b ++ putI a.length 1 ++ (a.take i).flatMap fun c => putI c.toNat 2).length ≤ 4294967000 := by rw [List.length_append, List.length_append]; omega
    repeat' (first
    | ((show AL _ _ _ _ _ _ _ _; refine al_cons rfl ?_); (first
      | (show AOp _ _ ⟨_, .move _, _, _, _, _⟩ _ _ _; refine r_move hG rfl rfl ?_)
      | (show AOp _ _ ⟨_, .assign _, _, _, _, _⟩ _ _ _; refine r_asg hG rfl rfl ?_)
      | (show AOp _ _ ⟨_, .call ⟨.builtin .len, _, _⟩, _, _, _, _⟩ _ _ _; first | refine r_lenm hG rfl rfl rfl rfl ?_ | refine r_len hG rfl rfl rfl rfl rfl ?_)
      | (show AOp _ _ ⟨_, .binOp .add _ _ _ _, _, _, _, _⟩ _ _ _; first | refine r_ari64 hG rfl rfl rfl rfl rfl (by omega) ?_ | refine r_aru64 hG rfl rfl rfl rfl rfl (by omega) ?_ | refine r_aru8 hG rfl rfl rfl rfl rfl (by omega) ?_ | refine r_aru16 hG rfl rfl rfl rfl rfl (by omega) ?_)
      | (show AOp _ _ ⟨_, .binOp _ _ _ _ _, _, _, _, _⟩ _ _ _; first | refine r_cmpT hG rfl rfl rfl rfl rfl (by omega) ?_ | refine r_cmpF hG rfl rfl rfl rfl rfl (by omega) ?_ | refine r_strT hG rfl rfl rfl rfl (by first | rfl | assumption) ?_ | refine r_strnF hG rfl rfl rfl rfl (by first | rfl | assumption) ?_ | refine r_strF hG rfl rfl rfl rfl (by assumption) ?_ | refine r_strnT hG rfl rfl rfl rfl (by assumption) ?_ | (refine r_cmp hG rfl rfl rfl rfl rfl (fun h => ?_) (fun h => ?_)) | (first | refine r_str hG rfl rfl rfl rfl (fun h => ?_) (fun h => ?_) | refine r_strn hG rfl rfl rfl rfl (fun h => ?_) (fun h => ?_)) | refine r_beq hG rfl rfl rfl rfl rfl ?_ | refine r_bin' hG rfl rfl rfl ?_)
      | (show AOp _ _ ⟨_, .load _ _, _, _, _, _⟩ _ _ _; first | refine r_ldro hG rfl rfl rfl ?_ | refine r_ld 0 hG rfl rfl rfl rfl ?_ | refine r_ld 1 hG rfl rfl rfl rfl ?_ | refine r_ld 2 hG rfl rfl rfl rfl ?_ | refine r_ld 3 hG rfl rfl rfl rfl ?_)
      | (show AOp _ _ ⟨_, .indexAddr _ _ _, _, _, _, _⟩ _ _ _; first | refine r_idx0 hG rfl rfl rfl rfl rfl rfl rfl ?_ | refine r_idxn hG rfl rfl rfl rfl rfl rfl rfl (by omega) ?_ | refine r_idxm hG rfl rfl rfl rfl rfl rfl rfl (by omega) ?_ | refine r_idx hG rfl rfl ?_)
      | (show AOp _ _ ⟨_, .convert _ _ _, _, _, _, _⟩ _ _ _; first | refine r_tostr hG rfl rfl rfl rfl rfl rfl rfl rfl (by first | exact bytesT_map _ _ | exact bytesT_s _ | rfl) ?_ | refine r_cv8 hG rfl rfl rfl rfl rfl rfl ?_ | refine r_cv16 hG rfl rfl rfl rfl rfl rfl ?_ | refine r_cv_i64 hG rfl rfl rfl rfl rfl (by omega) ?_ | refine r_cv_u64 hG rfl rfl rfl rfl rfl (by omega) ?_ | refine r_cv_u8 hG rfl rfl rfl rfl rfl (by omega) ?_ | refine r_cv_u16 hG rfl rfl rfl rfl rfl (by omega) ?_ | refine r_cvw hG rfl rfl rfl rfl rfl ?_)
      | (show AOp _ _ ⟨_, .buildSlice _ _ _, _, _, _, _⟩ _ _ _; first | refine r_mk (sz := 1) hG rfl rfl rfl rfl rfl rfl rfl ?_ | refine r_mk (sz := 2) hG rfl rfl rfl rfl rfl rfl rfl ?_)
      | (show AOp _ _ ⟨_, .call ⟨.builtin .append, _, _⟩, _, _, _, _⟩ _ _ _; first | refine r_app0m (sz := 1) (xs := []) hG rfl rfl rfl rfl rfl rfl rfl ⟨_, rfl⟩ rfl rfl rfl rfl rfl rfl rfl (by first | omega | (simp; omega)) (fun k => ?_) | refine r_appm 0 hG rfl rfl rfl rfl rfl rfl rfl ⟨_, rfl⟩ rfl rfl rfl rfl rfl (by first | omega | (simp only [List.length_append, List.length_cons, List.length_nil]; omega)) (fun k => ?_) | fail)
      | (show AOp _ _ ⟨_, .call ⟨.value _, _, _⟩, _, _, _, _⟩ _ _ _; first | (refine r_owns rfl rfl rfl rfl rfl (by apply ref_Put <;> (first | assumption | omega | exact bytesT_map _ _ | exact bytesT_s _ | exact catsT_map _ _ | exact catsT_c _ | rfl | (simp; omega))) (fun k => ?_)) | (have := kk; clear this; refine r_pure rfl rfl rfl rfl rfl (Owns.pure (by apply ref_Put <;> (first | assumption | omega | exact bytesT_map _ _ | exact bytesT_s _ | exact catsT_map _ _ | exact catsT_c _ | rfl | (simp; omega)))) ?_) | fail)
      | refine r_q hG rfl rfl rfl ?_))
    | (show AL _ _ _ _ _ _ _ _; first | refine al_s rfl rfl rfl ?_ | (refine al_nil ?_; first | show AW _ _ _ _ _ _ | show ∃ x', _ < _ ∧ _)) | (show AW _ _ (.seq _ _) _ _ _; refine aw_seq' ?_; intro Q1) | (show AW _ _ (.region _ _ false) _ _ _; refine aw_regL' ?_; intro O1) | (show AW _ _ (.cond _ _ _) _ _ _; first | refine aw_if_t rfl ?_ | refine aw_if_f rfl ?_) | (show AW _ _ (.skip) _ _ _; refine aw_skip ?_; first | show AW _ _ _ _ _ _ | show ∃ x', _ < _ ∧ _) | (show AW _ _ (.block _ _) _ _ _; refine aw_block' ?_; intro Q1) | (show AW _ _ (.exit _) _ _ _; refine aw_exit ?_; first | show AW _ _ _ _ _ _ | show ∃ x', _ < _ ∧ _) | (show AW _ _ (.ret) _ _ _; refine aw_ret ?_; try dsimp only [thenA, inBlockA, jumpA, noGotoA]) | fail)
    refine ⟨⟨i + 1, _, by omega⟩, by dsimp only; omega, ?_, drop_tok⟩
    exact .cons rfl (.consW rfl (.int (by simp)) (.consW rfl (.eq (by rw [hft]; simp)) (.nil _)))
  · obtain rfl : i = a.length := by omega
    repeat' (first
    | ((show AL _ _ _ _ _ _ _ _; refine al_cons rfl ?_); (first
      | (show AOp _ _ ⟨_, .move _, _, _, _, _⟩ _ _ _; refine r_move hG rfl rfl ?_)
      | (show AOp _ _ ⟨_, .assign _, _, _, _, _⟩ _ _ _; refine r_asg hG rfl rfl ?_)
      | (show AOp _ _ ⟨_, .call ⟨.builtin .len, _, _⟩, _, _, _, _⟩ _ _ _; first | refine r_lenm hG rfl rfl rfl rfl ?_ | refine r_len hG rfl rfl rfl rfl rfl ?_)
      | (show AOp _ _ ⟨_, .binOp .add _ _ _ _, _, _, _, _⟩ _ _ _; first | refine r_ari64 hG rfl rfl rfl rfl rfl (by omega) ?_ | refine r_aru64 hG rfl rfl rfl rfl rfl (by omega) ?_ | refine r_aru8 hG rfl rfl rfl rfl rfl (by omega) ?_ | refine r_aru16 hG rfl rfl rfl rfl rfl (by omega) ?_)
      | (show AOp _ _ ⟨_, .binOp _ _ _ _ _, _, _, _, _⟩ _ _ _; first | refine r_cmpT hG rfl rfl rfl rfl rfl (by omega) ?_ | refine r_cmpF hG rfl rfl rfl rfl rfl (by omega) ?_ | refine r_strT hG rfl rfl rfl rfl (by first | rfl | assumption) ?_ | refine r_strnF hG rfl rfl rfl rfl (by first | rfl | assumption) ?_ | refine r_strF hG rfl rfl rfl rfl (by assumption) ?_ | refine r_strnT hG rfl rfl rfl rfl (by assumption) ?_ | (refine r_cmp hG rfl rfl rfl rfl rfl (fun h => ?_) (fun h => ?_)) | (first | refine r_str hG rfl rfl rfl rfl (fun h => ?_) (fun h => ?_) | refine r_strn hG rfl rfl rfl rfl (fun h => ?_) (fun h => ?_)) | refine r_beq hG rfl rfl rfl rfl rfl ?_ | refine r_bin' hG rfl rfl rfl ?_)
      | (show AOp _ _ ⟨_, .load _ _, _, _, _, _⟩ _ _ _; first | refine r_ldro hG rfl rfl rfl ?_ | refine r_ld 0 hG rfl rfl rfl rfl ?_ | refine r_ld 1 hG rfl rfl rfl rfl ?_ | refine r_ld 2 hG rfl rfl rfl rfl ?_ | refine r_ld 3 hG rfl rfl rfl rfl ?_)
      | (show AOp _ _ ⟨_, .indexAddr _ _ _, _, _, _, _⟩ _ _ _; first | refine r_idx0 hG rfl rfl rfl rfl rfl rfl rfl ?_ | refine r_idxn hG rfl rfl rfl rfl rfl rfl rfl (by omega) ?_ | refine r_idxm hG rfl rfl rfl rfl rfl rfl rfl (by omega) ?_ | refine r_idx hG rfl rfl ?_)
      | (show AOp _ _ ⟨_, .convert _ _ _, _, _, _, _⟩ _ _ _; first | refine r_tostr hG rfl rfl rfl rfl rfl rfl rfl rfl (by first | exact bytesT_map _ _ | exact bytesT_s _ | rfl) ?_ | refine r_cv8 hG rfl rfl rfl rfl rfl rfl ?_ | refine r_cv16 hG rfl rfl rfl rfl rfl rfl ?_ | refine r_cv_i64 hG rfl rfl rfl rfl rfl (by omega) ?_ | refine r_cv_u64 hG rfl rfl rfl rfl rfl (by omega) ?_ | refine r_cv_u8 hG rfl rfl rfl rfl rfl (by omega) ?_ | refine r_cv_u16 hG rfl rfl rfl rfl rfl (by omega) ?_ | refine r_cvw hG rfl rfl rfl rfl rfl ?_)
      | (show AOp _ _ ⟨_, .buildSlice _ _ _, _, _, _, _⟩ _ _ _; first | refine r_mk (sz := 1) hG rfl rfl rfl rfl rfl rfl rfl ?_ | refine r_mk (sz := 2) hG rfl rfl rfl rfl rfl rfl rfl ?_)
      | (show AOp _ _ ⟨_, .call ⟨.builtin .append, _, _⟩, _, _, _, _⟩ _ _ _; first | refine r_app0m (sz := 1) (xs := []) hG rfl rfl rfl rfl rfl rfl rfl ⟨_, rfl⟩ rfl rfl rfl rfl rfl rfl rfl (by first | omega | (simp; omega)) (fun k => ?_) | refine r_appm 0 hG rfl rfl rfl rfl rfl rfl rfl ⟨_, rfl⟩ rfl rfl rfl rfl rfl (by first | omega | (simp only [List.length_append, List.length_cons, List.length_nil]; omega)) (fun k => ?_) | fail)
      | refine r_q hG rfl rfl rfl ?_))
    | (show AL _ _ _ _ _ _ _ _; first | refine al_s rfl rfl rfl ?_ | (refine al_nil ?_; first | show AW _ _ _ _ _ _ | show ∃ x', _ < _ ∧ _)) | (show AW _ _ (.seq _ _) _ _ _; refine aw_seq' ?_; intro Q1) | (show AW _ _ (.region _ _ false) _ _ _; refine aw_regL' ?_; intro O1) | (show AW _ _ (.cond _ _ _) _ _ _; first | refine aw_if_t rfl ?_ | refine aw_if_f rfl ?_) | (show AW _ _ (.skip) _ _ _; refine aw_skip ?_; first | show AW _ _ _ _ _ _ | show ∃ x', _ < _ ∧ _) | (show AW _ _ (.block _ _) _ _ _; refine aw_block' ?_; intro Q1) | (show AW _ _ (.exit _) _ _ _; refine aw_exit ?_; first | show AW _ _ _ _ _ _ | show ∃ x', _ < _ ∧ _) | (show AW _ _ (.ret) _ _ _; refine aw_ret ?_; try dsimp only [thenA, inBlockA, jumpA, noGotoA]) | fail)
    exact ret_owns 0 (res_tmp rfl res_nil) rfl (by rw [putC, List.take_length]) rfl

end Go.Proofs.Ytholeicgmkjadaa
