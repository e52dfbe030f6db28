/- num, and the parts of slices that it calls: Grow, Concat, PutBytes, TakeBytes; the document's answers to them. -/
import Derived.Test.YtholeicgmkjadaaS1
namespace Go.Proofs.Ytholeicgmkjadaa
open Go.Ts
attribute [local irreducible] Go.Ts.AW Go.Ts.AOps Go.Ts.AL Go.Ts.AOp Go.Ts.ACalls Go.Ts.DL
theorem zerosT_len {ti : TI} (n : Nat) (h : ti.tree.cells.length = ti.size) : (zerosT ti n).length = n * ti.size := by
  unfold zerosT; rw [List.flatMap_def, List.map_replicate, List.length_flatten]; simp [h]
theorem grow_nil {n : Int} (hn : 0 ≤ n ∧ n ≤ 4294967296) : Owns Try.prog 79 [.nilsl, .int .i64 n] 1 [] := by
  intro off
  refine acalls_mk (N := 27) (rs := [.tmp 4]) hG Try.func79 rfl rfl rfl rfl rfl ?_
  repeat' (first
    | ((show AL _ _ _ _ _ _ _ _; refine al_cons rfl ?_); (first
      | (show AOp _ _ ⟨_, .move _, _, _, _, _⟩ _ _ _; refine r_move hG rfl rfl ?_)
      | (show AOp _ _ ⟨_, .assign _, _, _, _, _⟩ _ _ _; refine r_asg hG rfl rfl ?_)
      | (show AOp _ _ ⟨_, .call ⟨.builtin .len, _, _⟩, _, _, _, _⟩ _ _ _; first | refine r_lenm hG rfl rfl rfl rfl ?_ | refine r_len hG rfl rfl rfl rfl rfl ?_)
      | (show AOp _ _ ⟨_, .binOp .sub _ _ _ _, _, _, _, _⟩ _ _ _; first | refine r_ari64 hG rfl rfl rfl rfl rfl (by omega) ?_ | refine r_aru64 hG rfl rfl rfl rfl rfl (by omega) ?_ | refine r_aru8 hG rfl rfl rfl rfl rfl (by omega) ?_ | refine r_aru16 hG rfl rfl rfl rfl rfl (by omega) ?_)
      | (show AOp _ _ ⟨_, .binOp _ _ _ _ _, _, _, _, _⟩ _ _ _; first | refine r_cmpT hG rfl rfl rfl rfl rfl (by omega) ?_ | refine r_cmpF hG rfl rfl rfl rfl rfl (by omega) ?_ | refine r_strT hG rfl rfl rfl rfl (by first | rfl | assumption) ?_ | refine r_strnF hG rfl rfl rfl rfl (by first | rfl | assumption) ?_ | refine r_strF hG rfl rfl rfl rfl (by assumption) ?_ | refine r_strnT hG rfl rfl rfl rfl (by assumption) ?_ | (refine r_cmp hG rfl rfl rfl rfl rfl (fun h => ?_) (fun h => ?_)) | (first | refine r_str hG rfl rfl rfl rfl (fun h => ?_) (fun h => ?_) | refine r_strn hG rfl rfl rfl rfl (fun h => ?_) (fun h => ?_)) | refine r_beq hG rfl rfl rfl rfl rfl ?_ | refine r_bin' hG rfl rfl rfl ?_)
      | (show AOp _ _ ⟨_, .slice _ _ _ _ _, _, _, _, _⟩ _ _ _; first | refine r_sl_lon hG rfl rfl rfl rfl rfl rfl rfl (by omega) ?_ | refine r_sl_hin hG rfl rfl rfl rfl rfl rfl rfl (by omega) ?_ | refine r_sl_lhn hG rfl rfl rfl rfl rfl rfl rfl rfl (by omega) ?_ | refine r_sl_lo hG rfl rfl rfl rfl rfl rfl rfl (by omega) ?_ | refine r_sl_hi hG rfl rfl rfl rfl rfl rfl rfl (by omega) ?_ | refine r_sl_lh hG rfl rfl rfl rfl rfl rfl rfl rfl (by omega) ?_ | refine op_cut0 hG rfl rfl rfl rfl rfl rfl rfl rfl rfl rfl ?_ | refine r_sl hG rfl rfl ?_)
      | (show AOp _ _ ⟨_, .call ⟨.builtin .append, _, _⟩, _, _, _, _⟩ _ _ _; first | refine r_app0m (sz := 1) (xs := []) hG rfl rfl rfl rfl rfl rfl rfl ⟨_, rfl⟩ rfl rfl rfl rfl rfl rfl rfl (by first | omega | (simp; omega)) (fun k => ?_) | refine r_appm 0 hG rfl rfl rfl rfl rfl rfl rfl ⟨_, rfl⟩ rfl rfl rfl rfl rfl (by first | omega | (simp only [List.length_append, List.length_cons, List.length_nil]; omega)) (fun k => ?_) | fail)
      | refine r_q hG rfl rfl rfl ?_))
    | (show AL _ _ _ _ _ _ _ _; first | refine al_s rfl rfl rfl ?_ | (refine al_nil ?_; first | show AW _ _ _ _ _ _ | show ∃ x', _ < _ ∧ _)) | (show AW _ _ (.seq _ _) _ _ _; refine aw_seq' ?_; intro Q1) | (show AW _ _ (.region _ _ false) _ _ _; refine aw_regL' ?_; intro O1) | (show AW _ _ (.cond _ _ _) _ _ _; first | refine aw_if_t rfl ?_ | refine aw_if_f rfl ?_) | (show AW _ _ (.skip) _ _ _; refine aw_skip ?_; first | show AW _ _ _ _ _ _ | show ∃ x', _ < _ ∧ _) | (show AW _ _ (.ret) _ _ _; refine aw_ret ?_; try dsimp only [thenA, inBlockA, jumpA, noGotoA]) | fail)
  · refine al_cons rfl (op_zeros hG rfl rfl rfl rfl rfl rfl rfl rfl rfl rfl rfl (by omega) (fun i cap hc => ?_))
    repeat' (first
    | ((show AL _ _ _ _ _ _ _ _; refine al_cons rfl ?_); (first
      | (show AOp _ _ ⟨_, .move _, _, _, _, _⟩ _ _ _; refine r_move hG rfl rfl ?_)
      | (show AOp _ _ ⟨_, .assign _, _, _, _, _⟩ _ _ _; refine r_asg hG rfl rfl ?_)
      | (show AOp _ _ ⟨_, .call ⟨.builtin .len, _, _⟩, _, _, _, _⟩ _ _ _; first | refine r_lenm hG rfl rfl rfl rfl ?_ | refine r_len hG rfl rfl rfl rfl rfl ?_)
      | (show AOp _ _ ⟨_, .binOp .sub _ _ _ _, _, _, _, _⟩ _ _ _; first | refine r_ari64 hG rfl rfl rfl rfl rfl (by omega) ?_ | refine r_aru64 hG rfl rfl rfl rfl rfl (by omega) ?_ | refine r_aru8 hG rfl rfl rfl rfl rfl (by omega) ?_ | refine r_aru16 hG rfl rfl rfl rfl rfl (by omega) ?_)
      | (show AOp _ _ ⟨_, .binOp _ _ _ _ _, _, _, _, _⟩ _ _ _; first | refine r_cmpT hG rfl rfl rfl rfl rfl (by omega) ?_ | refine r_cmpF hG rfl rfl rfl rfl rfl (by omega) ?_ | refine r_strT hG rfl rfl rfl rfl (by first | rfl | assumption) ?_ | refine r_strnF hG rfl rfl rfl rfl (by first | rfl | assumption) ?_ | refine r_strF hG rfl rfl rfl rfl (by assumption) ?_ | refine r_strnT hG rfl rfl rfl rfl (by assumption) ?_ | (refine r_cmp hG rfl rfl rfl rfl rfl (fun h => ?_) (fun h => ?_)) | (first | refine r_str hG rfl rfl rfl rfl (fun h => ?_) (fun h => ?_) | refine r_strn hG rfl rfl rfl rfl (fun h => ?_) (fun h => ?_)) | refine r_beq hG rfl rfl rfl rfl rfl ?_ | refine r_bin' hG rfl rfl rfl ?_)
      | (show AOp _ _ ⟨_, .slice _ _ _ _ _, _, _, _, _⟩ _ _ _; first | refine r_sl_lon hG rfl rfl rfl rfl rfl rfl rfl (by omega) ?_ | refine r_sl_hin hG rfl rfl rfl rfl rfl rfl rfl (by omega) ?_ | refine r_sl_lhn hG rfl rfl rfl rfl rfl rfl rfl rfl (by omega) ?_ | refine r_sl_lo hG rfl rfl rfl rfl rfl rfl rfl (by omega) ?_ | refine r_sl_hi hG rfl rfl rfl rfl rfl rfl rfl (by omega) ?_ | refine r_sl_lh hG rfl rfl rfl rfl rfl rfl rfl rfl (by omega) ?_ | refine op_cut0 hG rfl rfl rfl rfl rfl rfl rfl rfl rfl rfl ?_ | refine r_sl hG rfl rfl ?_)
      | (show AOp _ _ ⟨_, .call ⟨.builtin .append, _, _⟩, _, _, _, _⟩ _ _ _; first | refine r_app0m (sz := 1) (xs := []) hG rfl rfl rfl rfl rfl rfl rfl ⟨_, rfl⟩ rfl rfl rfl rfl rfl rfl rfl (by first | omega | (simp; omega)) (fun k => ?_) | refine r_appm 0 hG rfl rfl rfl rfl rfl rfl rfl ⟨_, rfl⟩ rfl rfl rfl rfl rfl (by first | omega | (simp only [List.length_append, List.length_cons, List.length_nil]; omega)) (fun k => ?_) | fail)
      | refine r_q hG rfl rfl rfl ?_))
    | (show AL _ _ _ _ _ _ _ _; first | refine al_s rfl rfl rfl ?_ | (refine al_nil ?_; first | show AW _ _ _ _ _ _ | show ∃ x', _ < _ ∧ _)) | (show AW _ _ (.seq _ _) _ _ _; refine aw_seq' ?_; intro Q1) | (show AW _ _ (.region _ _ false) _ _ _; refine aw_regL' ?_; intro O1) | (show AW _ _ (.cond _ _ _) _ _ _; first | refine aw_if_t rfl ?_ | refine aw_if_f rfl ?_) | (show AW _ _ (.skip) _ _ _; refine aw_skip ?_; first | show AW _ _ _ _ _ _ | show ∃ x', _ < _ ∧ _) | fail)
    refine aw_room 0 4 rfl rfl rfl rfl (fun k => ?_)
    exact aw_ret (ret_owns 0 (res_tmp rfl res_nil) rfl rfl rfl)
  · exact ret_owns0 (sz := 1) (res_tmp rfl res_nil) rfl rfl rfl rfl

def lettersOf : List T → Option (List (List UInt8))
  | [] => some []
  | t :: r => match bytesT t, lettersOf r with
    | some b, some s => some (b :: s)
    | _, _ => none
theorem lettersOf_map : ∀ (l : List (List UInt8)), lettersOf (l.map sT) = some l
  | [] => rfl
  | x :: l => by simp only [List.map_cons, lettersOf, bytesT_s, lettersOf_map l]
theorem bytesT_scalar {t : T} {b : List UInt8} (h : bytesT t = some b) : t.scalar = true := by
  unfold bytesT at h
  split at h
  · rfl
  · rfl
  · cases h
theorem lettersOf_wk : ∀ {xs : List T} {l : List (List UInt8)}, lettersOf xs = some l → xs.length = l.length ∧ ∀ (i : Nat) (x : T) (b : List UInt8), xs[i]? = some x → l[i]? = some b → x.scalar = true ∧ Wk x (sT b)
  | [], l, h => by simp [lettersOf] at h; subst h; exact ⟨rfl, fun i x b h => by simp at h⟩
  | t :: xs, l, h => by
    simp only [lettersOf] at h
    split at h
    · rename_i b s hb hs
      injection h with h; subst h
      obtain ⟨h1, h2⟩ := lettersOf_wk hs
      refine ⟨by simp [h1], fun i x c hx hc => ?_⟩
      cases i with
      | zero => simp at hx hc; subst hx; subst hc; exact ⟨bytesT_scalar hb, bytesT_wk hb⟩
      | succ i => exact h2 i x c (by simpa using hx) (by simpa using hc)
    · cases h
/-- What reads as letters. -/
def lettersT : T → Option (List (List UInt8))
  | .nilsl => some []
  | .sl 1 _ xs => lettersOf xs
  | _ => none
/-- Letters. -/
def lT (l : List (List UInt8)) : T := .sl 1 .no (l.map sT)
theorem lettersT_map (own : Own) (l : List (List UInt8)) : lettersT (.sl 1 own (l.map sT)) = some l := lettersOf_map l
theorem lettersT_l (l : List (List UInt8)) : lettersT (lT l) = some l := lettersOf_map l
theorem lettersT_wk {x : T} {l : List (List UInt8)} (h : lettersT x = some l) : Wk x (lT l) := by
  unfold lettersT at h
  split at h
  · injection h with h; subst h; exact Wk.nil 1
  · rename_i own xs
    obtain ⟨h1, h2⟩ := lettersOf_wk h
    refine (Wk.own 1 own xs).trans (Wk.list (by simpa using h1) fun i x y hx hy => ?_)
    rw [List.getElem?_map] at hy
    cases hl : l[i]? with
    | none => rw [hl] at hy; cases hy
    | some b =>
      rw [hl] at hy; injection hy with hy; subst hy
      obtain ⟨h3, h4⟩ := h2 i x b hx hl
      exact ⟨h3, rfl, h4⟩
  · cases h
instance : Enc lT 1 := ⟨fun x c h => by simp [lT, T.cells] at h; subst h; rfl, fun x => rfl⟩

def total (bs : List (List UInt8)) : Nat := (bs.map List.length).sum
theorem total_snoc (bs : List (List UInt8)) (b : List UInt8) : total (bs ++ [b]) = total bs + b.length := by simp [total]
theorem total_take_le (bs : List (List UInt8)) (i : Nat) : total (bs.take i) ≤ total bs := by
  have h : total bs = total (bs.take i) + total (bs.drop i) := by
    conv => lhs; rw [← List.take_append_drop i bs]
    simp only [total, List.map_append, List.sum_append]
  omega
theorem flatten_length (bs : List (List UInt8)) : bs.flatten.length = total bs := by simp [total, List.length_flatten]
theorem take_getD {α : Type} [Inhabited α] (l : List α) (i : Nat) (h : i < l.length) : l.take (i + 1) = l.take i ++ [l.getD i default] := by
  rw [List.take_succ_eq_append_getElem h]; simp [List.getElem?_eq_getElem h]

structure CatX (bs : List (List UInt8)) where
  i : Nat
  hi : i ≤ bs.length
structure CatY (bs : List (List UInt8)) where
  i : Nat
  k : Nat
  hi : i ≤ bs.length
theorem concat_b {x : T} {bs : List (List UInt8)} (hx : lettersT x = some bs) (hb : total bs ≤ 4294967200) (hn : bs.length ≤ 4294967296) :
    Owns Try.prog 56 [x] 1 (bs.flatten.map bT) := by
  refine Owns.weak (us := [lT bs]) ?_ (wk1 (lettersT_wk hx))
  intro off
  refine acalls_mk (N := 36) (rs := [.tmp 2]) hG Try.func56 rfl rfl rfl rfl rfl ?_
  repeat' (first
    | ((show AL _ _ _ _ _ _ _ _; refine al_cons rfl ?_); (first
      | (show AOp _ _ ⟨_, .move _, _, _, _, _⟩ _ _ _; refine r_move hG rfl rfl ?_)
      | (show AOp _ _ ⟨_, .assign _, _, _, _, _⟩ _ _ _; refine r_asg hG rfl rfl ?_)
      | (show AOp _ _ ⟨_, .call ⟨.builtin .len, _, _⟩, _, _, _, _⟩ _ _ _; first | refine r_lenm hG rfl rfl rfl rfl ?_ | refine r_len hG rfl rfl rfl rfl rfl ?_)
      | (show AOp _ _ ⟨_, .binOp .add _ _ _ _, _, _, _, _⟩ _ _ _; first | refine r_ari64 hG rfl rfl rfl rfl rfl (by omega) ?_ | refine r_aru64 hG rfl rfl rfl rfl rfl (by omega) ?_ | refine r_aru8 hG rfl rfl rfl rfl rfl (by omega) ?_ | refine r_aru16 hG rfl rfl rfl rfl rfl (by omega) ?_)
      | (show AOp _ _ ⟨_, .binOp _ _ _ _ _, _, _, _, _⟩ _ _ _; first | refine r_cmpT hG rfl rfl rfl rfl rfl (by omega) ?_ | refine r_cmpF hG rfl rfl rfl rfl rfl (by omega) ?_ | refine r_strT hG rfl rfl rfl rfl (by first | rfl | assumption) ?_ | refine r_strnF hG rfl rfl rfl rfl (by first | rfl | assumption) ?_ | refine r_strF hG rfl rfl rfl rfl (by assumption) ?_ | refine r_strnT hG rfl rfl rfl rfl (by assumption) ?_ | (refine r_cmp hG rfl rfl rfl rfl rfl (fun h => ?_) (fun h => ?_)) | (first | refine r_str hG rfl rfl rfl rfl (fun h => ?_) (fun h => ?_) | refine r_strn hG rfl rfl rfl rfl (fun h => ?_) (fun h => ?_)) | refine r_beq hG rfl rfl rfl rfl rfl ?_ | refine r_bin' hG rfl rfl rfl ?_)
      | (show AOp _ _ ⟨_, .load _ _, _, _, _, _⟩ _ _ _; first | refine r_ldro hG rfl rfl rfl ?_ | refine r_ld 0 hG rfl rfl rfl rfl ?_ | refine r_ld 1 hG rfl rfl rfl rfl ?_ | refine r_ld 2 hG rfl rfl rfl rfl ?_ | refine r_ld 3 hG rfl rfl rfl rfl ?_)
      | (show AOp _ _ ⟨_, .indexAddr _ _ _, _, _, _, _⟩ _ _ _; first | refine r_idx0 hG rfl rfl rfl rfl rfl rfl rfl ?_ | refine r_idxn hG rfl rfl rfl rfl rfl rfl rfl (by omega) ?_ | refine r_idxm hG rfl rfl rfl rfl rfl rfl rfl (by omega) ?_ | refine r_idx hG rfl rfl ?_)
      | (show AOp _ _ ⟨_, .call ⟨.builtin .append, _, _⟩, _, _, _, _⟩ _ _ _; first | refine r_app0m (sz := 1) (xs := []) hG rfl rfl rfl rfl rfl rfl rfl ⟨_, rfl⟩ rfl rfl rfl rfl rfl rfl rfl (by first | omega | (simp; omega)) (fun k => ?_) | refine r_appm 0 hG rfl rfl rfl rfl rfl rfl rfl ⟨_, rfl⟩ rfl rfl rfl rfl rfl (by first | omega | (simp only [List.length_append, List.length_cons, List.length_nil]; omega)) (fun k => ?_) | fail)
      | refine r_q hG rfl rfl rfl ?_))
    | (show AL _ _ _ _ _ _ _ _; first | refine al_s rfl rfl rfl ?_ | (refine al_nil ?_; first | show AW _ _ _ _ _ _ | show ∃ x', _ < _ ∧ _)) | (show AW _ _ (.seq _ _) _ _ _; refine aw_seq' ?_; intro Q1) | (show AW _ _ (.region _ _ false) _ _ _; refine aw_regL' ?_; intro O1) | (show AW _ _ (.cond _ _ _) _ _ _; first | refine aw_if_t rfl ?_ | refine aw_if_f rfl ?_) | (show AW _ _ (.skip) _ _ _; refine aw_skip ?_; first | show AW _ _ _ _ _ _ | show ∃ x', _ < _ ∧ _) | (show AW _ _ (.block _ _) _ _ _; refine aw_block' ?_; intro Q1) | (show AW _ _ (.exit _) _ _ _; refine aw_exit ?_; first | show AW _ _ _ _ _ _ | show ∃ x', _ < _ ∧ _) | (show AW _ _ (.ret) _ _ _; refine aw_ret ?_; try dsimp only [thenA, inBlockA, jumpA, noGotoA]) | fail)
  refine aw_loop (X := CatX bs) (fun x => [(0, lT bs), (9, lT bs), (10, .int .i64 bs.length), (11, .int .i64 x.i), (3, .int .i64 (total (bs.take x.i)))]) (fun x => ⟨[], [], off, none⟩) (fun x => bs.length - x.i) ⟨0, Nat.zero_le _⟩ ?_ (.refl _) ?_
  · exact .cons rfl (.cons rfl (.consW rfl (.int (by simp)) (.consW rfl (.int rfl) (.consW rfl (.int (by simp [total])) (.nil _)))))
  rintro ⟨i, hi⟩
  dsimp only
  have hle := total_take_le bs i
  by_cases hib : i < bs.length
  · have htk := take_getD bs i hib
    have hle2 := total_take_le bs (i + 1)
    rw [htk, total_snoc] at hle2
    repeat' (first
    | ((show AL _ _ _ _ _ _ _ _; refine al_cons rfl ?_); (first
      | (show AOp _ _ ⟨_, .move _, _, _, _, _⟩ _ _ _; refine r_move hG rfl rfl ?_)
      | (show AOp _ _ ⟨_, .assign _, _, _, _, _⟩ _ _ _; refine r_asg hG rfl rfl ?_)
      | (show AOp _ _ ⟨_, .call ⟨.builtin .len, _, _⟩, _, _, _, _⟩ _ _ _; first | refine r_lenm hG rfl rfl rfl rfl ?_ | refine r_len hG rfl rfl rfl rfl rfl ?_)
      | (show AOp _ _ ⟨_, .binOp .add _ _ _ _, _, _, _, _⟩ _ _ _; first | refine r_ari64 hG rfl rfl rfl rfl rfl (by omega) ?_ | refine r_aru64 hG rfl rfl rfl rfl rfl (by omega) ?_ | refine r_aru8 hG rfl rfl rfl rfl rfl (by omega) ?_ | refine r_aru16 hG rfl rfl rfl rfl rfl (by omega) ?_)
      | (show AOp _ _ ⟨_, .binOp _ _ _ _ _, _, _, _, _⟩ _ _ _; first | refine r_cmpT hG rfl rfl rfl rfl rfl (by omega) ?_ | refine r_cmpF hG rfl rfl rfl rfl rfl (by omega) ?_ | refine r_strT hG rfl rfl rfl rfl (by first | rfl | assumption) ?_ | refine r_strnF hG rfl rfl rfl rfl (by first | rfl | assumption) ?_ | refine r_strF hG rfl rfl rfl rfl (by assumption) ?_ | refine r_strnT hG rfl rfl rfl rfl (by assumption) ?_ | (refine r_cmp hG rfl rfl rfl rfl rfl (fun h => ?_) (fun h => ?_)) | (first | refine r_str hG rfl rfl rfl rfl (fun h => ?_) (fun h => ?_) | refine r_strn hG rfl rfl rfl rfl (fun h => ?_) (fun h => ?_)) | refine r_beq hG rfl rfl rfl rfl rfl ?_ | refine r_bin' hG rfl rfl rfl ?_)
      | (show AOp _ _ ⟨_, .load _ _, _, _, _, _⟩ _ _ _; first | refine r_ldro hG rfl rfl rfl ?_ | refine r_ld 0 hG rfl rfl rfl rfl ?_ | refine r_ld 1 hG rfl rfl rfl rfl ?_ | refine r_ld 2 hG rfl rfl rfl rfl ?_ | refine r_ld 3 hG rfl rfl rfl rfl ?_)
      | (show AOp _ _ ⟨_, .indexAddr _ _ _, _, _, _, _⟩ _ _ _; first | refine r_idx0 hG rfl rfl rfl rfl rfl rfl rfl ?_ | refine r_idxn hG rfl rfl rfl rfl rfl rfl rfl (by omega) ?_ | refine r_idxm hG rfl rfl rfl rfl rfl rfl rfl (by omega) ?_ | refine r_idx hG rfl rfl ?_)
      | (show AOp _ _ ⟨_, .call ⟨.builtin .append, _, _⟩, _, _, _, _⟩ _ _ _; first | refine r_app0m (sz := 1) (xs := []) hG rfl rfl rfl rfl rfl rfl rfl ⟨_, rfl⟩ rfl rfl rfl rfl rfl rfl rfl (by first | omega | (simp; omega)) (fun k => ?_) | refine r_appm 0 hG rfl rfl rfl rfl rfl rfl rfl ⟨_, rfl⟩ rfl rfl rfl rfl rfl (by first | omega | (simp only [List.length_append, List.length_cons, List.length_nil]; omega)) (fun k => ?_) | fail)
      | refine r_q hG rfl rfl rfl ?_))
    | (show AL _ _ _ _ _ _ _ _; first | refine al_s rfl rfl rfl ?_ | (refine al_nil ?_; first | show AW _ _ _ _ _ _ | show ∃ x', _ < _ ∧ _)) | (show AW _ _ (.seq _ _) _ _ _; refine aw_seq' ?_; intro Q1) | (show AW _ _ (.region _ _ false) _ _ _; refine aw_regL' ?_; intro O1) | (show AW _ _ (.cond _ _ _) _ _ _; first | refine aw_if_t rfl ?_ | refine aw_if_f rfl ?_) | (show AW _ _ (.skip) _ _ _; refine aw_skip ?_; first | show AW _ _ _ _ _ _ | show ∃ x', _ < _ ∧ _) | (show AW _ _ (.block _ _) _ _ _; refine aw_block' ?_; intro Q1) | (show AW _ _ (.exit _) _ _ _; refine aw_exit ?_; first | show AW _ _ _ _ _ _ | show ∃ x', _ < _ ∧ _) | (show AW _ _ (.ret) _ _ _; refine aw_ret ?_; try dsimp only [thenA, inBlockA, jumpA, noGotoA]) | fail)
    refine ⟨⟨i + 1, by omega⟩, by dsimp only; omega, ?_, .refl _⟩
    refine .cons rfl (.cons rfl (.cons rfl (.consW rfl (.int (by simp)) (.consW rfl (.int ?_) (.nil _)))))
    show _ = ((total (bs.take (i + 1)) : Nat) : Int)
    rw [htk, total_snoc]; simp
  · obtain rfl : i = bs.length := by omega
    rw [List.take_length] at *
    repeat' (first
    | ((show AL _ _ _ _ _ _ _ _; refine al_cons rfl ?_); (first
      | (show AOp _ _ ⟨_, .move _, _, _, _, _⟩ _ _ _; refine r_move hG rfl rfl ?_)
      | (show AOp _ _ ⟨_, .assign _, _, _, _, _⟩ _ _ _; refine r_asg hG rfl rfl ?_)
      | (show AOp _ _ ⟨_, .call ⟨.builtin .len, _, _⟩, _, _, _, _⟩ _ _ _; first | refine r_lenm hG rfl rfl rfl rfl ?_ | refine r_len hG rfl rfl rfl rfl rfl ?_)
      | (show AOp _ _ ⟨_, .binOp .add _ _ _ _, _, _, _, _⟩ _ _ _; first | refine r_ari64 hG rfl rfl rfl rfl rfl (by omega) ?_ | refine r_aru64 hG rfl rfl rfl rfl rfl (by omega) ?_ | refine r_aru8 hG rfl rfl rfl rfl rfl (by omega) ?_ | refine r_aru16 hG rfl rfl rfl rfl rfl (by omega) ?_)
      | (show AOp _ _ ⟨_, .binOp _ _ _ _ _, _, _, _, _⟩ _ _ _; first | refine r_cmpT hG rfl rfl rfl rfl rfl (by omega) ?_ | refine r_cmpF hG rfl rfl rfl rfl rfl (by omega) ?_ | refine r_strT hG rfl rfl rfl rfl (by first | rfl | assumption) ?_ | refine r_strnF hG rfl rfl rfl rfl (by first | rfl | assumption) ?_ | refine r_strF hG rfl rfl rfl rfl (by assumption) ?_ | refine r_strnT hG rfl rfl rfl rfl (by assumption) ?_ | (refine r_cmp hG rfl rfl rfl rfl rfl (fun h => ?_) (fun h => ?_)) | (first | refine r_str hG rfl rfl rfl rfl (fun h => ?_) (fun h => ?_) | refine r_strn hG rfl rfl rfl rfl (fun h => ?_) (fun h => ?_)) | refine r_beq hG rfl rfl rfl rfl rfl ?_ | refine r_bin' hG rfl rfl rfl ?_)
      | (show AOp _ _ ⟨_, .load _ _, _, _, _, _⟩ _ _ _; first | refine r_ldro hG rfl rfl rfl ?_ | refine r_ld 0 hG rfl rfl rfl rfl ?_ | refine r_ld 1 hG rfl rfl rfl rfl ?_ | refine r_ld 2 hG rfl rfl rfl rfl ?_ | refine r_ld 3 hG rfl rfl rfl rfl ?_)
      | (show AOp _ _ ⟨_, .indexAddr _ _ _, _, _, _, _⟩ _ _ _; first | refine r_idx0 hG rfl rfl rfl rfl rfl rfl rfl ?_ | refine r_idxn hG rfl rfl rfl rfl rfl rfl rfl (by omega) ?_ | refine r_idxm hG rfl rfl rfl rfl rfl rfl rfl (by omega) ?_ | refine r_idx hG rfl rfl ?_)
      | (show AOp _ _ ⟨_, .call ⟨.builtin .append, _, _⟩, _, _, _, _⟩ _ _ _; first | refine r_app0m (sz := 1) (xs := []) hG rfl rfl rfl rfl rfl rfl rfl ⟨_, rfl⟩ rfl rfl rfl rfl rfl rfl rfl (by first | omega | (simp; omega)) (fun k => ?_) | refine r_appm 0 hG rfl rfl rfl rfl rfl rfl rfl ⟨_, rfl⟩ rfl rfl rfl rfl rfl (by first | omega | (simp only [List.length_append, List.length_cons, List.length_nil]; omega)) (fun k => ?_) | fail)
      | (show AOp _ _ ⟨_, .call ⟨.value _, _, _⟩, _, _, _, _⟩ _ _ _; first | (refine r_owns rfl rfl rfl rfl rfl (by apply grow_nil <;> (first | assumption | omega | exact bytesT_map _ _ | exact bytesT_s _ | exact catsT_map _ _ | exact catsT_c _ | rfl | (simp; omega))) (fun k => ?_)) | (have := kk; clear this; refine r_pure rfl rfl rfl rfl rfl (Owns.pure (by apply grow_nil <;> (first | assumption | omega | exact bytesT_map _ _ | exact bytesT_s _ | exact catsT_map _ _ | exact catsT_c _ | rfl | (simp; omega)))) ?_) | fail)
      | refine r_q hG rfl rfl rfl ?_))
    | (show AL _ _ _ _ _ _ _ _; first | refine al_s rfl rfl rfl ?_ | (refine al_nil ?_; first | show AW _ _ _ _ _ _ | show ∃ x', _ < _ ∧ _)) | (show AW _ _ (.seq _ _) _ _ _; refine aw_seq' ?_; intro Q1) | (show AW _ _ (.region _ _ false) _ _ _; refine aw_regL' ?_; intro O1) | (show AW _ _ (.cond _ _ _) _ _ _; first | refine aw_if_t rfl ?_ | refine aw_if_f rfl ?_) | (show AW _ _ (.skip) _ _ _; refine aw_skip ?_; first | show AW _ _ _ _ _ _ | show ∃ x', _ < _ ∧ _) | (show AW _ _ (.block _ _) _ _ _; refine aw_block' ?_; intro Q1) | (show AW _ _ (.exit _) _ _ _; refine aw_exit ?_; first | show AW _ _ _ _ _ _ | show ∃ x', _ < _ ∧ _) | (show AW _ _ (.ret) _ _ _; refine aw_ret ?_; try dsimp only [thenA, inBlockA, jumpA, noGotoA]) | fail)
    refine aw_loop (X := CatY bs) (fun x => [(25, lT bs), (26, .int .i64 bs.length), (27, .int .i64 x.i), (6, .sl 1 (.tok x.k) ((bs.take x.i).flatten.map bT))]) (fun x => ⟨[], [x.k], off, none⟩) (fun x => bs.length - x.i) ⟨0, k, Nat.zero_le _⟩ ?_ (.refl _) ?_
    · exact .cons rfl (.consW rfl (.int (by simp)) (.consW rfl (.int rfl) (.consW rfl (.eq (by simp)) (.nil _))))
    rintro ⟨i, k, hi⟩
    dsimp only
    have hle := total_take_le bs i
    have hfl := flatten_length (bs.take i)
    by_cases hib : i < bs.length
    · have htk := take_getD bs i hib
      have hle2 := total_take_le bs (i + 1)
      rw [htk, total_snoc] at hle2
      repeat' (first
    | ((show AL _ _ _ _ _ _ _ _; refine al_cons rfl ?_); (first
      | (show AOp _ _ ⟨_, .move _, _, _, _, _⟩ _ _ _; refine r_move hG rfl rfl ?_)
      | (show AOp _ _ ⟨_, .assign _, _, _, _, _⟩ _ _ _; refine r_asg hG rfl rfl ?_)
      | (show AOp _ _ ⟨_, .call ⟨.builtin .len, _, _⟩, _, _, _, _⟩ _ _ _; first | refine r_lenm hG rfl rfl rfl rfl ?_ | refine r_len hG rfl rfl rfl rfl rfl ?_)
      | (show AOp _ _ ⟨_, .binOp .add _ _ _ _, _, _, _, _⟩ _ _ _; first | refine r_ari64 hG rfl rfl rfl rfl rfl (by omega) ?_ | refine r_aru64 hG rfl rfl rfl rfl rfl (by omega) ?_ | refine r_aru8 hG rfl rfl rfl rfl rfl (by omega) ?_ | refine r_aru16 hG rfl rfl rfl rfl rfl (by omega) ?_)
      | (show AOp _ _ ⟨_, .binOp _ _ _ _ _, _, _, _, _⟩ _ _ _; first | refine r_cmpT hG rfl rfl rfl rfl rfl (by omega) ?_ | refine r_cmpF hG rfl rfl rfl rfl rfl (by omega) ?_ | refine r_strT hG rfl rfl rfl rfl (by first | rfl | assumption) ?_ | refine r_strnF hG rfl rfl rfl rfl (by first | rfl | assumption) ?_ | refine r_strF hG rfl rfl rfl rfl (by assumption) ?_ | refine r_strnT hG rfl rfl rfl rfl (by assumption) ?_ | (refine r_cmp hG rfl rfl rfl rfl rfl (fun h => ?_) (fun h => ?_)) | (first | refine r_str hG rfl rfl rfl rfl (fun h => ?_) (fun h => ?_) | refine r_strn hG rfl rfl rfl rfl (fun h => ?_) (fun h => ?_)) | refine r_beq hG rfl rfl rfl rfl rfl ?_ | refine r_bin' hG rfl rfl rfl ?_)
      | (show AOp _ _ ⟨_, .load _ _, _, _, _, _⟩ _ _ _; first | refine r_ldro hG rfl rfl rfl ?_ | refine r_ld 0 hG rfl rfl rfl rfl ?_ | refine r_ld 1 hG rfl rfl rfl rfl ?_ | refine r_ld 2 hG rfl rfl rfl rfl ?_ | refine r_ld 3 hG rfl rfl rfl rfl ?_)
      | (show AOp _ _ ⟨_, .indexAddr _ _ _, _, _, _, _⟩ _ _ _; first | refine r_idx0 hG rfl rfl rfl rfl rfl rfl rfl ?_ | refine r_idxn hG rfl rfl rfl rfl rfl rfl rfl (by omega) ?_ | refine r_idxm hG rfl rfl rfl rfl rfl rfl rfl (by omega) ?_ | refine r_idx hG rfl rfl ?_)
      | (show AOp _ _ ⟨_, .call ⟨.builtin .append, _, _⟩, _, _, _, _⟩ _ _ _; first | refine r_app0m (sz := 1) (xs := []) hG rfl rfl rfl rfl rfl rfl rfl ⟨_, rfl⟩ rfl rfl rfl rfl rfl rfl rfl (by first | omega | (simp; omega)) (fun k => ?_) | refine r_appm 0 hG rfl rfl rfl rfl rfl rfl rfl ⟨_, rfl⟩ rfl rfl rfl rfl rfl (by first | omega | (simp only [List.length_append, List.length_cons, List.length_nil]; omega)) (fun k => ?_) | fail)
      | refine r_q hG rfl rfl rfl ?_))
    | (show AL _ _ _ _ _ _ _ _; first | refine al_s rfl rfl rfl ?_ | (refine al_nil ?_; first | show AW _ _ _ _ _ _ | show ∃ x', _ < _ ∧ _)) | (show AW _ _ (.seq _ _) _ _ _; refine aw_seq' ?_; intro Q1) | (show AW _ _ (.region _ _ false) _ _ _; refine aw_regL' ?_; intro O1) | (show AW _ _ (.cond _ _ _) _ _ _; first | refine aw_if_t rfl ?_ | refine aw_if_f rfl ?_) | (show AW _ _ (.skip) _ _ _; refine aw_skip ?_; first | show AW _ _ _ _ _ _ | show ∃ x', _ < _ ∧ _) | (show AW _ _ (.block _ _) _ _ _; refine aw_block' ?_; intro Q1) | (show AW _ _ (.exit _) _ _ _; refine aw_exit ?_; first | show AW _ _ _ _ _ _ | show ∃ x', _ < _ ∧ _) | (show AW _ _ (.ret) _ _ _; refine aw_ret ?_; try dsimp only [thenA, inBlockA, jumpA, noGotoA]) | fail)
      refine ⟨⟨i + 1, _, by omega⟩, by dsimp only; omega, ?_, .refl _⟩
      refine .cons rfl (.cons rfl (.consW rfl (.int (by simp)) (.consW rfl (.eq ?_) (.nil _))))
      rw [htk, List.flatten_append]; simp
    · obtain rfl : i = bs.length := by omega
      rw [List.take_length] at *
      repeat' (first
    | ((show AL _ _ _ _ _ _ _ _; refine al_cons rfl ?_); (first
      | (show AOp _ _ ⟨_, .move _, _, _, _, _⟩ _ _ _; refine r_move hG rfl rfl ?_)
      | (show AOp _ _ ⟨_, .assign _, _, _, _, _⟩ _ _ _; refine r_asg hG rfl rfl ?_)
      | (show AOp _ _ ⟨_, .call ⟨.builtin .len, _, _⟩, _, _, _, _⟩ _ _ _; first | refine r_lenm hG rfl rfl rfl rfl ?_ | refine r_len hG rfl rfl rfl rfl rfl ?_)
      | (show AOp _ _ ⟨_, .binOp .add _ _ _ _, _, _, _, _⟩ _ _ _; first | refine r_ari64 hG rfl rfl rfl rfl rfl (by omega) ?_ | refine r_aru64 hG rfl rfl rfl rfl rfl (by omega) ?_ | refine r_aru8 hG rfl rfl rfl rfl rfl (by omega) ?_ | refine r_aru16 hG rfl rfl rfl rfl rfl (by omega) ?_)
      | (show AOp _ _ ⟨_, .binOp _ _ _ _ _, _, _, _, _⟩ _ _ _; first | refine r_cmpT hG rfl rfl rfl rfl rfl (by omega) ?_ | refine r_cmpF hG rfl rfl rfl rfl rfl (by omega) ?_ | refine r_strT hG rfl rfl rfl rfl (by first | rfl | assumption) ?_ | refine r_strnF hG rfl rfl rfl rfl (by first | rfl | assumption) ?_ | refine r_strF hG rfl rfl rfl rfl (by assumption) ?_ | refine r_strnT hG rfl rfl rfl rfl (by assumption) ?_ | (refine r_cmp hG rfl rfl rfl rfl rfl (fun h => ?_) (fun h => ?_)) | (first | refine r_str hG rfl rfl rfl rfl (fun h => ?_) (fun h => ?_) | refine r_strn hG rfl rfl rfl rfl (fun h => ?_) (fun h => ?_)) | refine r_beq hG rfl rfl rfl rfl rfl ?_ | refine r_bin' hG rfl rfl rfl ?_)
      | (show AOp _ _ ⟨_, .load _ _, _, _, _, _⟩ _ _ _; first | refine r_ldro hG rfl rfl rfl ?_ | refine r_ld 0 hG rfl rfl rfl rfl ?_ | refine r_ld 1 hG rfl rfl rfl rfl ?_ | refine r_ld 2 hG rfl rfl rfl rfl ?_ | refine r_ld 3 hG rfl rfl rfl rfl ?_)
      | (show AOp _ _ ⟨_, .indexAddr _ _ _, _, _, _, _⟩ _ _ _; first | refine r_idx0 hG rfl rfl rfl rfl rfl rfl rfl ?_ | refine r_idxn hG rfl rfl rfl rfl rfl rfl rfl (by omega) ?_ | refine r_idxm hG rfl rfl rfl rfl rfl rfl rfl (by omega) ?_ | refine r_idx hG rfl rfl ?_)
      | (show AOp _ _ ⟨_, .call ⟨.builtin .append, _, _⟩, _, _, _, _⟩ _ _ _; first | refine r_app0m (sz := 1) (xs := []) hG rfl rfl rfl rfl rfl rfl rfl ⟨_, rfl⟩ rfl rfl rfl rfl rfl rfl rfl (by first | omega | (simp; omega)) (fun k => ?_) | refine r_appm 0 hG rfl rfl rfl rfl rfl rfl rfl ⟨_, rfl⟩ rfl rfl rfl rfl rfl (by first | omega | (simp only [List.length_append, List.length_cons, List.length_nil]; omega)) (fun k => ?_) | fail)
      | refine r_q hG rfl rfl rfl ?_))
    | (show AL _ _ _ _ _ _ _ _; first | refine al_s rfl rfl rfl ?_ | (refine al_nil ?_; first | show AW _ _ _ _ _ _ | show ∃ x', _ < _ ∧ _)) | (show AW _ _ (.seq _ _) _ _ _; refine aw_seq' ?_; intro Q1) | (show AW _ _ (.region _ _ false) _ _ _; refine aw_regL' ?_; intro O1) | (show AW _ _ (.cond _ _ _) _ _ _; first | refine aw_if_t rfl ?_ | refine aw_if_f rfl ?_) | (show AW _ _ (.skip) _ _ _; refine aw_skip ?_; first | show AW _ _ _ _ _ _ | show ∃ x', _ < _ ∧ _) | (show AW _ _ (.block _ _) _ _ _; refine aw_block' ?_; intro Q1) | (show AW _ _ (.exit _) _ _ _; refine aw_exit ?_; first | show AW _ _ _ _ _ _ | show ∃ x', _ < _ ∧ _) | (show AW _ _ (.ret) _ _ _; refine aw_ret ?_; try dsimp only [thenA, inBlockA, jumpA, noGotoA]) | fail)
      exact ret_owns 0 (res_tmp rfl res_nil) rfl rfl rfl

def putBs (b s : List UInt8) : List UInt8 := b ++ putI s.length 2 ++ s
theorem num_PutBytes {x y : T} {b s : List UInt8} (hx : bytesT x = some b) (hy : bytesT y = some s) (hl : b.length ≤ 4294880000) (hs : s.length ≤ 70000) :
    Owns Try.prog 33 [x, y] 1 ((putBs b s).map bT) := by
  refine Owns.weak (us := [sT b, sT s]) ?_ (wk2 (bytesT_wk hx) (bytesT_wk hy))
  intro off
  refine acalls_mk (N := 13) (rs := [.tmp 4]) hG Try.func33 rfl rfl rfl rfl rfl ?_
  have hpl := putI_le s.length 2
  repeat' (first
    | ((show AL _ _ _ _ _ _ _ _; refine al_cons rfl ?_); (first
      | (show AOp _ _ ⟨_, .move _, _, _, _, _⟩ _ _ _; refine r_move hG rfl rfl ?_)
      | (show AOp _ _ ⟨_, .assign _, _, _, _, _⟩ _ _ _; refine r_asg hG rfl rfl ?_)
      | (show AOp _ _ ⟨_, .call ⟨.builtin .len, _, _⟩, _, _, _, _⟩ _ _ _; first | refine r_lenm hG rfl rfl rfl rfl ?_ | refine r_len hG rfl rfl rfl rfl rfl ?_)
      | (show AOp _ _ ⟨_, .convert _ _ _, _, _, _, _⟩ _ _ _; first | refine r_tostr hG rfl rfl rfl rfl rfl rfl rfl rfl (by first | exact bytesT_map _ _ | exact bytesT_s _ | rfl) ?_ | refine r_cv8 hG rfl rfl rfl rfl rfl rfl ?_ | refine r_cv16 hG rfl rfl rfl rfl rfl rfl ?_ | refine r_cv_i64 hG rfl rfl rfl rfl rfl (by omega) ?_ | refine r_cv_u64 hG rfl rfl rfl rfl rfl (by omega) ?_ | refine r_cv_u8 hG rfl rfl rfl rfl rfl (by omega) ?_ | refine r_cv_u16 hG rfl rfl rfl rfl rfl (by omega) ?_ | refine r_cvw hG rfl rfl rfl rfl rfl ?_)
      | (show AOp _ _ ⟨_, .buildSlice _ _ _, _, _, _, _⟩ _ _ _; first | refine r_mk (sz := 1) hG rfl rfl rfl rfl rfl rfl rfl ?_ | refine r_mk (sz := 2) hG rfl rfl rfl rfl rfl rfl rfl ?_)
      | (show AOp _ _ ⟨_, .call ⟨.value _, _, _⟩, _, _, _, _⟩ _ _ _; first | (refine r_owns rfl rfl rfl rfl rfl (by apply num_Put <;> (first | assumption | omega | exact bytesT_map _ _ | exact bytesT_s _ | exact catsT_map _ _ | exact catsT_c _ | rfl | (simp; omega))) (fun k => ?_)) | (have := kk; clear this; refine r_pure rfl rfl rfl rfl rfl (Owns.pure (by apply num_Put <;> (first | assumption | omega | exact bytesT_map _ _ | exact bytesT_s _ | exact catsT_map _ _ | exact catsT_c _ | rfl | (simp; omega)))) ?_) | fail)
      | refine r_q hG rfl rfl rfl ?_))
    | (show AL _ _ _ _ _ _ _ _; first | refine al_s rfl rfl rfl ?_ | (refine al_nil ?_; first | show AW _ _ _ _ _ _ | show ∃ x', _ < _ ∧ _)) | (show AW _ _ (.seq _ _) _ _ _; refine aw_seq' ?_; intro Q1) | (show AW _ _ (.region _ _ false) _ _ _; refine aw_regL' ?_; intro O1) | (show AW _ _ (.ret) _ _ _; refine aw_ret ?_; try dsimp only [thenA, inBlockA, jumpA, noGotoA]) | fail)
  refine al_cons rfl (r_owns rfl rfl rfl rfl rfl (concat_b (bs := [b ++ putI s.length 2, s]) ?_ ?_ ?_) (fun k => ?_))
  · simp only [lettersT, lettersOf, bytesT_map, bytesT_s]
  · simp [total]; omega
  · simp
  repeat' (first
    | ((show AL _ _ _ _ _ _ _ _; refine al_cons rfl ?_); (first
      | (show AOp _ _ ⟨_, .move _, _, _, _, _⟩ _ _ _; refine r_move hG rfl rfl ?_)
      | (show AOp _ _ ⟨_, .assign _, _, _, _, _⟩ _ _ _; refine r_asg hG rfl rfl ?_)
      | (show AOp _ _ ⟨_, .call ⟨.builtin .len, _, _⟩, _, _, _, _⟩ _ _ _; first | refine r_lenm hG rfl rfl rfl rfl ?_ | refine r_len hG rfl rfl rfl rfl rfl ?_)
      | (show AOp _ _ ⟨_, .convert _ _ _, _, _, _, _⟩ _ _ _; first | refine r_tostr hG rfl rfl rfl rfl rfl rfl rfl rfl (by first | exact bytesT_map _ _ | exact bytesT_s _ | rfl) ?_ | refine r_cv8 hG rfl rfl rfl rfl rfl rfl ?_ | refine r_cv16 hG rfl rfl rfl rfl rfl rfl ?_ | refine r_cv_i64 hG rfl rfl rfl rfl rfl (by omega) ?_ | refine r_cv_u64 hG rfl rfl rfl rfl rfl (by omega) ?_ | refine r_cv_u8 hG rfl rfl rfl rfl rfl (by omega) ?_ | refine r_cv_u16 hG rfl rfl rfl rfl rfl (by omega) ?_ | refine r_cvw hG rfl rfl rfl rfl rfl ?_)
      | (show AOp _ _ ⟨_, .buildSlice _ _ _, _, _, _, _⟩ _ _ _; first | refine r_mk (sz := 1) hG rfl rfl rfl rfl rfl rfl rfl ?_ | refine r_mk (sz := 2) hG rfl rfl rfl rfl rfl rfl rfl ?_)
      | refine r_q hG rfl rfl rfl ?_))
    | (show AL _ _ _ _ _ _ _ _; first | refine al_s rfl rfl rfl ?_ | (refine al_nil ?_; first | show AW _ _ _ _ _ _ | show ∃ x', _ < _ ∧ _)) | (show AW _ _ (.seq _ _) _ _ _; refine aw_seq' ?_; intro Q1) | (show AW _ _ (.region _ _ false) _ _ _; refine aw_regL' ?_; intro O1) | (show AW _ _ (.ret) _ _ _; refine aw_ret ?_; try dsimp only [thenA, inBlockA, jumpA, noGotoA]) | fail)
  exact ret_owns 0 (res_tmp rfl res_nil) rfl (by simp [putBs]) rfl
end Go.Proofs.Ytholeicgmkjadaa
