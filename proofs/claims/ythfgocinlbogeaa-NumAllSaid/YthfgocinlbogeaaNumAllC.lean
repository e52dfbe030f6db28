/- Part of the proof of the law NumAll: the texts S2, S3, S5, AB, TsJ, AH, BB, BC. No conditions. -/
import Derived.Test.YthfgocinlbogeaaNumAllB
set_option linter.unusedSimpArgs false
set_option linter.unusedVariables false
namespace Go.Proofs.Ythfgocinlbogeaa
open Go.Ts
attribute [local irreducible] Go.Ts.AW Go.Ts.AOps Go.Ts.AL Go.Ts.AOp Go.Ts.ACalls Go.Ts.DL
theorem grow_nil {n : Int} (hn : 0 ≤ n ∧ n ≤ 4294967296) : Owns Try.prog 93 [.nilsl, .int .i64 n] 1 [] := by
  intro off
  refine acalls_mk (N := 27) (rs := [.tmp 4]) hG Try.func93 rfl rfl rfl rfl rfl ?_
  repeat' (first
    | ((show AL _ _ _ _ _ _ _ _; refine Ac Y ?_); (first
      | refine Ar hG Y Y ?_
      | refine r_asg hG Y Y ?_
      | (show AOp _ _ ⟨_, .call ⟨.builtin .len, _, _⟩, _, _, _, _⟩ _ _ _; first | refine r_lenm hG Y Y Y Y ?_ | refine r_len hG Y Y Y Y Y ?_)
      | (show AOp _ _ ⟨_, .binOp .sub _ _ _ _, _, _, _, _⟩ _ _ _; first | refine Ag hG Y Y Y Y Y (by omega) ?_)
      | (show AOp _ _ ⟨_, .binOp _ _ _ _ _, _, _, _, _⟩ _ _ _; first | refine Az hG Y Y Y Y Y (by omega) ?_ | refine Ax hG Y Y Y Y Y (by omega) ?_ | (refine r_cmp hG Y Y Y Y Y (fun h => ?_) (fun h => ?_)))
      | (show AOp _ _ ⟨_, .slice _ _ _ _ _, _, _, _, _⟩ _ _ _; first | refine r_sl_hin hG Y Y Y Y Y Y Y (by omega) ?_ | refine r_sl_hi hG Y Y Y Y Y Y Y (by omega) ?_ | refine op_cut0 hG Y Y Y Y Y Y Y Y Y Y ?_ | refine r_sl hG Y Y ?_)
      | (show AOp _ _ ⟨_, .call ⟨.builtin .append, _, _⟩, _, _, _, _⟩ _ _ _; first | refine r_app0m (sz := 1) (xs := []) hG Y Y Y Y Y Y Y ⟨_, Y⟩ Y Y Y Y Y Y Y (by first | omega | (simp; omega)) (fun k => ?_) | refine r_appm 0 hG Y Y Y Y Y Y Y ⟨_, Y⟩ Y Y Y Y Y (by first | omega | (simp only [List.length_append, List.length_cons, List.length_nil]; omega)) (fun k => ?_) | fail)
      | refine r_q hG Y Y Y ?_))
    | (show AL _ _ _ _ _ _ _ _; first | refine al_s Y Y Y ?_ | (refine Aq ?_; first | show AW _ _ _ _ _ _ | show ∃ x', _ < _ ∧ _)) | (show AW _ _ (.seq _ _) _ _ _; refine Ai ?_; intro Q1) | (show AW _ _ (.region _ _ false) _ _ _; refine Af ?_; intro O1) | (show AW _ _ (.cond _ _ _) _ _ _; first | refine Al Y ?_ | refine Ak Y ?_) | (show AW _ _ (.skip) _ _ _; refine Aj ?_; first | show AW _ _ _ _ _ _ | show ∃ x', _ < _ ∧ _) | (show AW _ _ (.ret) _ _ _; refine As ?_; try dsimp only [Au, Ab, At, Ad]) | fail)
  · refine Ac rfl (op_zeros hG rfl rfl rfl rfl rfl rfl rfl rfl rfl rfl rfl (by omega) (fun i cap hc => ?_))
    repeat' (first
    | ((show AL _ _ _ _ _ _ _ _; refine Ac Y ?_); (first
      | refine Ar hG Y Y ?_
      | refine r_asg hG Y Y ?_
      | (show AOp _ _ ⟨_, .call ⟨.builtin .len, _, _⟩, _, _, _, _⟩ _ _ _; first | refine r_lenm hG Y Y Y Y ?_ | refine r_len hG Y Y Y Y Y ?_)
      | (show AOp _ _ ⟨_, .binOp .sub _ _ _ _, _, _, _, _⟩ _ _ _; first | refine Ag hG Y Y Y Y Y (by omega) ?_)
      | (show AOp _ _ ⟨_, .binOp _ _ _ _ _, _, _, _, _⟩ _ _ _; first | refine Az hG Y Y Y Y Y (by omega) ?_ | refine Ax hG Y Y Y Y Y (by omega) ?_ | (refine r_cmp hG Y Y Y Y Y (fun h => ?_) (fun h => ?_)))
      | (show AOp _ _ ⟨_, .slice _ _ _ _ _, _, _, _, _⟩ _ _ _; first | refine r_sl_hin hG Y Y Y Y Y Y Y (by omega) ?_ | refine r_sl_hi hG Y Y Y Y Y Y Y (by omega) ?_ | refine op_cut0 hG Y Y Y Y Y Y Y Y Y Y ?_ | refine r_sl hG Y Y ?_)
      | (show AOp _ _ ⟨_, .call ⟨.builtin .append, _, _⟩, _, _, _, _⟩ _ _ _; first | refine r_app0m (sz := 1) (xs := []) hG Y Y Y Y Y Y Y ⟨_, Y⟩ Y Y Y Y Y Y Y (by first | omega | (simp; omega)) (fun k => ?_) | refine r_appm 0 hG Y Y Y Y Y Y Y ⟨_, Y⟩ Y Y Y Y Y (by first | omega | (simp only [List.length_append, List.length_cons, List.length_nil]; omega)) (fun k => ?_) | fail)
      | refine r_q hG Y Y Y ?_))
    | (show AL _ _ _ _ _ _ _ _; first | refine al_s Y Y Y ?_ | (refine Aq ?_; first | show AW _ _ _ _ _ _ | show ∃ x', _ < _ ∧ _)) | (show AW _ _ (.seq _ _) _ _ _; refine Ai ?_; intro Q1) | (show AW _ _ (.region _ _ false) _ _ _; refine Af ?_; intro O1) | (show AW _ _ (.cond _ _ _) _ _ _; first | refine Al Y ?_ | refine Ak Y ?_) | (show AW _ _ (.skip) _ _ _; refine Aj ?_; first | show AW _ _ _ _ _ _ | show ∃ x', _ < _ ∧ _) | fail)
    refine aw_room 0 4 rfl rfl rfl rfl (fun k => ?_)
    exact As (ret_owns 0 (Am rfl A0) rfl rfl rfl)
  · exact ret_owns0 (sz := 1) (Am rfl A0) rfl rfl rfl rfl

def lettersOf : List T → Option (List (List UInt8))
  | [] => some []
  | t :: r => match bytesT t, lettersOf r with
    | some b, some s => some (b :: s)
    | _, _ => none
theorem bytesT_scalar {t : T} {b : List UInt8} (h : bytesT t = some b) : t.scalar = true := by
  unfold bytesT at h
  split at h
  · rfl
  · rfl
  · cases h
theorem lettersOf_wk : ∀ {xs : List T} {l : List (List UInt8)}, lettersOf xs = some l → xs.length = l.length ∧ ∀ (i : Nat) (x : T) (b : List UInt8), xs[i]? = some x → l[i]? = some b → x.scalar = true ∧ Wk x (sT b)
  | [], l, h => by simp [lettersOf] at h; subst h; exact ⟨rfl, fun i x b h => by simp at h⟩
  | t :: xs, l, h => by
    simp only [lettersOf] at h
    split at h
    · rename_i b s hb hs
      injection h with h; subst h
      obtain ⟨h1, h2⟩ := lettersOf_wk hs
      refine ⟨by simp [h1], fun i x c hx hc => ?_⟩
      cases i with
      | zero => simp at hx hc; subst hx; subst hc; exact ⟨bytesT_scalar hb, bytesT_wk hb⟩
      | succ i => exact h2 i x c (by simpa using hx) (by simpa using hc)
    · cases h
def lettersT : T → Option (List (List UInt8))
  | .nilsl => some []
  | .sl 1 _ xs => lettersOf xs
  | _ => none
def lT (l : List (List UInt8)) : T := .sl 1 .no (l.map sT)
theorem lettersT_wk {x : T} {l : List (List UInt8)} (h : lettersT x = some l) : Wk x (lT l) := by
  unfold lettersT at h
  split at h
  · injection h with h; subst h; exact Wk.nil 1
  · rename_i own xs
    obtain ⟨h1, h2⟩ := lettersOf_wk h
    refine (Wk.own 1 own xs).trans (Wk.list (by simpa using h1) fun i x y hx hy => ?_)
    rw [List.getElem?_map] at hy
    cases hl : l[i]? with
    | none => rw [hl] at hy; cases hy
    | some b =>
      rw [hl] at hy; injection hy with hy; subst hy
      obtain ⟨h3, h4⟩ := h2 i x b hx hl
      exact ⟨h3, rfl, h4⟩
  · cases h
instance : Enc lT 1 := ⟨fun x c h => by simp [lT, T.cells] at h; subst h; rfl, fun x => rfl⟩

def total (bs : List (List UInt8)) : Nat := (bs.map List.length).sum
theorem total_snoc (bs : List (List UInt8)) (b : List UInt8) : total (bs ++ [b]) = total bs + b.length := by simp [total]
theorem total_take_le (bs : List (List UInt8)) (i : Nat) : total (bs.take i) ≤ total bs := by
  have h : total bs = total (bs.take i) + total (bs.drop i) := by
    conv => lhs; rw [← List.take_append_drop i bs]
    simp only [total, List.map_append, List.sum_append]
  omega
theorem flatten_length (bs : List (List UInt8)) : bs.flatten.length = total bs := by simp [total, List.length_flatten]
theorem take_getD {α : Type} [Inhabited α] (l : List α) (i : Nat) (h : i < l.length) : l.take (i + 1) = l.take i ++ [l.getD i default] := by
  rw [List.take_succ_eq_append_getElem h]; simp [List.getElem?_eq_getElem h]

structure CatX (bs : List (List UInt8)) where
  i : Nat
  hi : i ≤ bs.length
structure CatY (bs : List (List UInt8)) where
  i : Nat
  k : Nat
  hi : i ≤ bs.length
theorem concat_b {x : T} {bs : List (List UInt8)} (hx : lettersT x = some bs) (hb : total bs ≤ 4294967200) (hn : bs.length ≤ 4294967296) :
    Owns Try.prog 69 [x] 1 (bs.flatten.map bT) := by
  refine Owns.weak (us := [lT bs]) ?_ (wk1 (lettersT_wk hx))
  intro off
  refine acalls_mk (N := 36) (rs := [.tmp 2]) hG Try.func69 rfl rfl rfl rfl rfl ?_
  repeat' (first
    | ((show AL _ _ _ _ _ _ _ _; refine Ac Y ?_); (first
      | refine Ar hG Y Y ?_
      | refine r_asg hG Y Y ?_
      | (show AOp _ _ ⟨_, .call ⟨.builtin .len, _, _⟩, _, _, _, _⟩ _ _ _; first | refine r_lenm hG Y Y Y Y ?_ | refine r_len hG Y Y Y Y Y ?_)
      | (show AOp _ _ ⟨_, .binOp .add _ _ _ _, _, _, _, _⟩ _ _ _; first | refine Ag hG Y Y Y Y Y (by omega) ?_)
      | (show AOp _ _ ⟨_, .binOp _ _ _ _ _, _, _, _, _⟩ _ _ _; first | refine Az hG Y Y Y Y Y (by omega) ?_ | refine Ax hG Y Y Y Y Y (by omega) ?_ | (refine r_cmp hG Y Y Y Y Y (fun h => ?_) (fun h => ?_)))
      | (show AOp _ _ ⟨_, .load _ _, _, _, _, _⟩ _ _ _; first | refine r_ldro hG Y Y Y ?_ | refine r_ld 0 hG Y Y Y Y ?_)
      | (show AOp _ _ ⟨_, .indexAddr _ _ _, _, _, _, _⟩ _ _ _; first | refine r_idxn hG Y Y Y Y Y Y Y (by omega) ?_ | refine r_idxm hG Y Y Y Y Y Y Y (by omega) ?_ | refine r_idx hG Y Y ?_)
      | (show AOp _ _ ⟨_, .call ⟨.builtin .append, _, _⟩, _, _, _, _⟩ _ _ _; first | refine r_app0m (sz := 1) (xs := []) hG Y Y Y Y Y Y Y ⟨_, Y⟩ Y Y Y Y Y Y Y (by first | omega | (simp; omega)) (fun k => ?_) | refine r_appm 0 hG Y Y Y Y Y Y Y ⟨_, Y⟩ Y Y Y Y Y (by first | omega | (simp only [List.length_append, List.length_cons, List.length_nil]; omega)) (fun k => ?_) | fail)
      | refine r_q hG Y Y Y ?_))
    | (show AL _ _ _ _ _ _ _ _; first | refine al_s Y Y Y ?_ | (refine Aq ?_; first | show AW _ _ _ _ _ _ | show ∃ x', _ < _ ∧ _)) | (show AW _ _ (.seq _ _) _ _ _; refine Ai ?_; intro Q1) | (show AW _ _ (.region _ _ false) _ _ _; refine Af ?_; intro O1) | (show AW _ _ (.cond _ _ _) _ _ _; first | refine Al Y ?_ | refine Ak Y ?_) | (show AW _ _ (.skip) _ _ _; refine Aj ?_; first | show AW _ _ _ _ _ _ | show ∃ x', _ < _ ∧ _) | (show AW _ _ (.block _ _) _ _ _; refine Ay ?_; intro Q1) | (show AW _ _ (.exit _) _ _ _; refine aw_exit ?_; first | show AW _ _ _ _ _ _ | show ∃ x', _ < _ ∧ _) | (show AW _ _ (.ret) _ _ _; refine As ?_; try dsimp only [Au, Ab, At, Ad]) | fail)
  refine aw_loop (X := CatX bs) (fun x => [(0, lT bs), (9, lT bs), (10, .int .i64 bs.length), (11, .int .i64 x.i), (3, .int .i64 (total (bs.take x.i)))]) (fun x => ⟨[], [], off, none⟩) (fun x => bs.length - x.i) ⟨0, Nat.zero_le _⟩ ?_ (.refl _) ?_
  · exact .cons rfl (.cons rfl (.consW rfl (.int (by simp)) (.consW rfl (.int rfl) (.consW rfl (.int (by simp [total])) (.nil _)))))
  rintro ⟨i, hi⟩
  dsimp only
  have hle := total_take_le bs i
  by_cases hib : i < bs.length
  · have htk := take_getD bs i hib
    have hle2 := total_take_le bs (i + 1)
    rw [htk, total_snoc] at hle2
    repeat' (first
    | ((show AL _ _ _ _ _ _ _ _; refine Ac Y ?_); (first
      | refine Ar hG Y Y ?_
      | refine r_asg hG Y Y ?_
      | (show AOp _ _ ⟨_, .call ⟨.builtin .len, _, _⟩, _, _, _, _⟩ _ _ _; first | refine r_lenm hG Y Y Y Y ?_ | refine r_len hG Y Y Y Y Y ?_)
      | (show AOp _ _ ⟨_, .binOp .add _ _ _ _, _, _, _, _⟩ _ _ _; first | refine Ag hG Y Y Y Y Y (by omega) ?_)
      | (show AOp _ _ ⟨_, .binOp _ _ _ _ _, _, _, _, _⟩ _ _ _; first | refine Az hG Y Y Y Y Y (by omega) ?_ | refine Ax hG Y Y Y Y Y (by omega) ?_ | (refine r_cmp hG Y Y Y Y Y (fun h => ?_) (fun h => ?_)))
      | (show AOp _ _ ⟨_, .load _ _, _, _, _, _⟩ _ _ _; first | refine r_ldro hG Y Y Y ?_ | refine r_ld 0 hG Y Y Y Y ?_)
      | (show AOp _ _ ⟨_, .indexAddr _ _ _, _, _, _, _⟩ _ _ _; first | refine r_idxn hG Y Y Y Y Y Y Y (by omega) ?_ | refine r_idxm hG Y Y Y Y Y Y Y (by omega) ?_ | refine r_idx hG Y Y ?_)
      | (show AOp _ _ ⟨_, .call ⟨.builtin .append, _, _⟩, _, _, _, _⟩ _ _ _; first | refine r_app0m (sz := 1) (xs := []) hG Y Y Y Y Y Y Y ⟨_, Y⟩ Y Y Y Y Y Y Y (by first | omega | (simp; omega)) (fun k => ?_) | refine r_appm 0 hG Y Y Y Y Y Y Y ⟨_, Y⟩ Y Y Y Y Y (by first | omega | (simp only [List.length_append, List.length_cons, List.length_nil]; omega)) (fun k => ?_) | fail)
      | refine r_q hG Y Y Y ?_))
    | (show AL _ _ _ _ _ _ _ _; first | refine al_s Y Y Y ?_ | (refine Aq ?_; first | show AW _ _ _ _ _ _ | show ∃ x', _ < _ ∧ _)) | (show AW _ _ (.seq _ _) _ _ _; refine Ai ?_; intro Q1) | (show AW _ _ (.region _ _ false) _ _ _; refine Af ?_; intro O1) | (show AW _ _ (.cond _ _ _) _ _ _; first | refine Al Y ?_ | refine Ak Y ?_) | (show AW _ _ (.skip) _ _ _; refine Aj ?_; first | show AW _ _ _ _ _ _ | show ∃ x', _ < _ ∧ _) | (show AW _ _ (.block _ _) _ _ _; refine Ay ?_; intro Q1) | (show AW _ _ (.exit _) _ _ _; refine aw_exit ?_; first | show AW _ _ _ _ _ _ | show ∃ x', _ < _ ∧ _) | (show AW _ _ (.ret) _ _ _; refine As ?_; try dsimp only [Au, Ab, At, Ad]) | fail)
    refine ⟨⟨i + 1, by omega⟩, by dsimp only; omega, ?_, .refl _⟩
    refine .cons rfl (.cons rfl (.cons rfl (.consW rfl (.int (by simp)) (.consW rfl (.int ?_) (.nil _)))))
    show _ = ((total (bs.take (i + 1)) : Nat) : Int)
    rw [htk, total_snoc]; simp
  · obtain rfl : i = bs.length := by omega
    rw [List.take_length] at *
    repeat' (first
    | ((show AL _ _ _ _ _ _ _ _; refine Ac Y ?_); (first
      | refine Ar hG Y Y ?_
      | refine r_asg hG Y Y ?_
      | (show AOp _ _ ⟨_, .call ⟨.builtin .len, _, _⟩, _, _, _, _⟩ _ _ _; first | refine r_lenm hG Y Y Y Y ?_ | refine r_len hG Y Y Y Y Y ?_)
      | (show AOp _ _ ⟨_, .binOp .add _ _ _ _, _, _, _, _⟩ _ _ _; first | refine Ag hG Y Y Y Y Y (by omega) ?_)
      | (show AOp _ _ ⟨_, .binOp _ _ _ _ _, _, _, _, _⟩ _ _ _; first | refine Az hG Y Y Y Y Y (by omega) ?_ | refine Ax hG Y Y Y Y Y (by omega) ?_ | (refine r_cmp hG Y Y Y Y Y (fun h => ?_) (fun h => ?_)))
      | (show AOp _ _ ⟨_, .load _ _, _, _, _, _⟩ _ _ _; first | refine r_ldro hG Y Y Y ?_ | refine r_ld 0 hG Y Y Y Y ?_)
      | (show AOp _ _ ⟨_, .indexAddr _ _ _, _, _, _, _⟩ _ _ _; first | refine r_idxn hG Y Y Y Y Y Y Y (by omega) ?_ | refine r_idxm hG Y Y Y Y Y Y Y (by omega) ?_ | refine r_idx hG Y Y ?_)
      | (show AOp _ _ ⟨_, .call ⟨.builtin .append, _, _⟩, _, _, _, _⟩ _ _ _; first | refine r_app0m (sz := 1) (xs := []) hG Y Y Y Y Y Y Y ⟨_, Y⟩ Y Y Y Y Y Y Y (by first | omega | (simp; omega)) (fun k => ?_) | refine r_appm 0 hG Y Y Y Y Y Y Y ⟨_, Y⟩ Y Y Y Y Y (by first | omega | (simp only [List.length_append, List.length_cons, List.length_nil]; omega)) (fun k => ?_) | fail)
      | (show AOp _ _ ⟨_, .call ⟨.value _, _, _⟩, _, _, _, _⟩ _ _ _; first | (refine r_owns Y Y Y Y Y (by first | (apply grow_nil <;> (first | assumption | omega | exact Ah _ _ | exact Ap _ | exact A2 _ _ | exact catsT_c _ | rfl | (simp; omega))) | fail) (fun k => ?_)) | (have := kk; clear this; refine r_pure Y Y Y Y Y (Owns.pure (by first | (apply grow_nil <;> (first | assumption | omega | exact Ah _ _ | exact Ap _ | exact A2 _ _ | exact catsT_c _ | rfl | (simp; omega))) | fail)) ?_) | fail)
      | refine r_q hG Y Y Y ?_))
    | (show AL _ _ _ _ _ _ _ _; first | refine al_s Y Y Y ?_ | (refine Aq ?_; first | show AW _ _ _ _ _ _ | show ∃ x', _ < _ ∧ _)) | (show AW _ _ (.seq _ _) _ _ _; refine Ai ?_; intro Q1) | (show AW _ _ (.region _ _ false) _ _ _; refine Af ?_; intro O1) | (show AW _ _ (.cond _ _ _) _ _ _; first | refine Al Y ?_ | refine Ak Y ?_) | (show AW _ _ (.skip) _ _ _; refine Aj ?_; first | show AW _ _ _ _ _ _ | show ∃ x', _ < _ ∧ _) | (show AW _ _ (.block _ _) _ _ _; refine Ay ?_; intro Q1) | (show AW _ _ (.exit _) _ _ _; refine aw_exit ?_; first | show AW _ _ _ _ _ _ | show ∃ x', _ < _ ∧ _) | (show AW _ _ (.ret) _ _ _; refine As ?_; try dsimp only [Au, Ab, At, Ad]) | fail)
    refine aw_loop (X := CatY bs) (fun x => [(25, lT bs), (26, .int .i64 bs.length), (27, .int .i64 x.i), (6, .sl 1 (.tok x.k) ((bs.take x.i).flatten.map bT))]) (fun x => ⟨[], [x.k], off, none⟩) (fun x => bs.length - x.i) ⟨0, k, Nat.zero_le _⟩ ?_ (.refl _) ?_
    · exact .cons rfl (.consW rfl (.int (by simp)) (.consW rfl (.int rfl) (.consW rfl (.eq (by simp)) (.nil _))))
    rintro ⟨i, k, hi⟩
    dsimp only
    have hle := total_take_le bs i
    have hfl := flatten_length (bs.take i)
    by_cases hib : i < bs.length
    · have htk := take_getD bs i hib
      have hle2 := total_take_le bs (i + 1)
      rw [htk, total_snoc] at hle2
      repeat' (first
    | ((show AL _ _ _ _ _ _ _ _; refine Ac Y ?_); (first
      | refine Ar hG Y Y ?_
      | refine r_asg hG Y Y ?_
      | (show AOp _ _ ⟨_, .call ⟨.builtin .len, _, _⟩, _, _, _, _⟩ _ _ _; first | refine r_lenm hG Y Y Y Y ?_ | refine r_len hG Y Y Y Y Y ?_)
      | (show AOp _ _ ⟨_, .binOp .add _ _ _ _, _, _, _, _⟩ _ _ _; first | refine Ag hG Y Y Y Y Y (by omega) ?_)
      | (show AOp _ _ ⟨_, .binOp _ _ _ _ _, _, _, _, _⟩ _ _ _; first | refine Az hG Y Y Y Y Y (by omega) ?_ | refine Ax hG Y Y Y Y Y (by omega) ?_ | (refine r_cmp hG Y Y Y Y Y (fun h => ?_) (fun h => ?_)))
      | (show AOp _ _ ⟨_, .load _ _, _, _, _, _⟩ _ _ _; first | refine r_ldro hG Y Y Y ?_ | refine r_ld 0 hG Y Y Y Y ?_)
      | (show AOp _ _ ⟨_, .indexAddr _ _ _, _, _, _, _⟩ _ _ _; first | refine r_idxn hG Y Y Y Y Y Y Y (by omega) ?_ | refine r_idxm hG Y Y Y Y Y Y Y (by omega) ?_ | refine r_idx hG Y Y ?_)
      | (show AOp _ _ ⟨_, .call ⟨.builtin .append, _, _⟩, _, _, _, _⟩ _ _ _; first | refine r_app0m (sz := 1) (xs := []) hG Y Y Y Y Y Y Y ⟨_, Y⟩ Y Y Y Y Y Y Y (by first | omega | (simp; omega)) (fun k => ?_) | refine r_appm 0 hG Y Y Y Y Y Y Y ⟨_, Y⟩ Y Y Y Y Y (by first | omega | (simp only [List.length_append, List.length_cons, List.length_nil]; omega)) (fun k => ?_) | fail)
      | refine r_q hG Y Y Y ?_))
    | (show AL _ _ _ _ _ _ _ _; first | refine al_s Y Y Y ?_ | (refine Aq ?_; first | show AW _ _ _ _ _ _ | show ∃ x', _ < _ ∧ _)) | (show AW _ _ (.seq _ _) _ _ _; refine Ai ?_; intro Q1) | (show AW _ _ (.region _ _ false) _ _ _; refine Af ?_; intro O1) | (show AW _ _ (.cond _ _ _) _ _ _; first | refine Al Y ?_ | refine Ak Y ?_) | (show AW _ _ (.skip) _ _ _; refine Aj ?_; first | show AW _ _ _ _ _ _ | show ∃ x', _ < _ ∧ _) | (show AW _ _ (.block _ _) _ _ _; refine Ay ?_; intro Q1) | (show AW _ _ (.exit _) _ _ _; refine aw_exit ?_; first | show AW _ _ _ _ _ _ | show ∃ x', _ < _ ∧ _) | (show AW _ _ (.ret) _ _ _; refine As ?_; try dsimp only [Au, Ab, At, Ad]) | fail)
      refine ⟨⟨i + 1, _, by omega⟩, by dsimp only; omega, ?_, .refl _⟩
      refine .cons rfl (.cons rfl (.consW rfl (.int (by simp)) (.consW rfl (.eq ?_) (.nil _))))
      rw [htk, List.flatten_append]; simp
    · obtain rfl : i = bs.length := by omega
      rw [List.take_length] at *
      repeat' (first
    | ((show AL _ _ _ _ _ _ _ _; refine Ac Y ?_); (first
      | refine Ar hG Y Y ?_
      | refine r_asg hG Y Y ?_
      | (show AOp _ _ ⟨_, .call ⟨.builtin .len, _, _⟩, _, _, _, _⟩ _ _ _; first | refine r_lenm hG Y Y Y Y ?_ | refine r_len hG Y Y Y Y Y ?_)
      | (show AOp _ _ ⟨_, .binOp .add _ _ _ _, _, _, _, _⟩ _ _ _; first | refine Ag hG Y Y Y Y Y (by omega) ?_)
      | (show AOp _ _ ⟨_, .binOp _ _ _ _ _, _, _, _, _⟩ _ _ _; first | refine Az hG Y Y Y Y Y (by omega) ?_ | refine Ax hG Y Y Y Y Y (by omega) ?_ | (refine r_cmp hG Y Y Y Y Y (fun h => ?_) (fun h => ?_)))
      | (show AOp _ _ ⟨_, .load _ _, _, _, _, _⟩ _ _ _; first | refine r_ldro hG Y Y Y ?_ | refine r_ld 0 hG Y Y Y Y ?_)
      | (show AOp _ _ ⟨_, .indexAddr _ _ _, _, _, _, _⟩ _ _ _; first | refine r_idxn hG Y Y Y Y Y Y Y (by omega) ?_ | refine r_idxm hG Y Y Y Y Y Y Y (by omega) ?_ | refine r_idx hG Y Y ?_)
      | (show AOp _ _ ⟨_, .call ⟨.builtin .append, _, _⟩, _, _, _, _⟩ _ _ _; first | refine r_app0m (sz := 1) (xs := []) hG Y Y Y Y Y Y Y ⟨_, Y⟩ Y Y Y Y Y Y Y (by first | omega | (simp; omega)) (fun k => ?_) | refine r_appm 0 hG Y Y Y Y Y Y Y ⟨_, Y⟩ Y Y Y Y Y (by first | omega | (simp only [List.length_append, List.length_cons, List.length_nil]; omega)) (fun k => ?_) | fail)
      | refine r_q hG Y Y Y ?_))
    | (show AL _ _ _ _ _ _ _ _; first | refine al_s Y Y Y ?_ | (refine Aq ?_; first | show AW _ _ _ _ _ _ | show ∃ x', _ < _ ∧ _)) | (show AW _ _ (.seq _ _) _ _ _; refine Ai ?_; intro Q1) | (show AW _ _ (.region _ _ false) _ _ _; refine Af ?_; intro O1) | (show AW _ _ (.cond _ _ _) _ _ _; first | refine Al Y ?_ | refine Ak Y ?_) | (show AW _ _ (.skip) _ _ _; refine Aj ?_; first | show AW _ _ _ _ _ _ | show ∃ x', _ < _ ∧ _) | (show AW _ _ (.block _ _) _ _ _; refine Ay ?_; intro Q1) | (show AW _ _ (.exit _) _ _ _; refine aw_exit ?_; first | show AW _ _ _ _ _ _ | show ∃ x', _ < _ ∧ _) | (show AW _ _ (.ret) _ _ _; refine As ?_; try dsimp only [Au, Ab, At, Ad]) | fail)
      exact ret_owns 0 (Am rfl A0) rfl rfl rfl

def putBs (b s : List UInt8) : List UInt8 := b ++ putI s.length 2 ++ s
theorem num_PutBytes {x y : T} {b s : List UInt8} (hx : bytesT x = some b) (hy : bytesT y = some s) (hl : b.length ≤ 4294880000) (hs : s.length ≤ 70000) :
    Owns Try.prog 43 [x, y] 1 ((putBs b s).map bT) := by
  refine Owns.weak (us := [sT b, sT s]) ?_ (wk2 (bytesT_wk hx) (bytesT_wk hy))
  intro off
  refine acalls_mk (N := 13) (rs := [.tmp 4]) hG Try.func43 rfl rfl rfl rfl rfl ?_
  have hpl := putI_le s.length 2
  repeat' (first
    | ((show AL _ _ _ _ _ _ _ _; refine Ac Y ?_); (first
      | refine Ar hG Y Y ?_
      | refine r_asg hG Y Y ?_
      | (show AOp _ _ ⟨_, .call ⟨.builtin .len, _, _⟩, _, _, _, _⟩ _ _ _; first | refine r_lenm hG Y Y Y Y ?_ | refine r_len hG Y Y Y Y Y ?_)
      | (show AOp _ _ ⟨_, .convert _ _ _, _, _, _, _⟩ _ _ _; first | refine r_cv_u64 hG Y Y Y Y Y (by omega) ?_ | refine r_cvw hG Y Y Y Y Y ?_)
      | (show AOp _ _ ⟨_, .buildSlice _ _ _, _, _, _, _⟩ _ _ _; first | refine r_mk (sz := 1) hG Y Y Y Y Y Y Y ?_)
      | (show AOp _ _ ⟨_, .call ⟨.value _, _, _⟩, _, _, _, _⟩ _ _ _; first | (refine r_owns Y Y Y Y Y (by first | (apply num_Put <;> (first | assumption | omega | exact Ah _ _ | exact Ap _ | exact A2 _ _ | exact catsT_c _ | rfl | (simp; omega))) | fail) (fun k => ?_)) | (have := kk; clear this; refine r_pure Y Y Y Y Y (Owns.pure (by first | (apply num_Put <;> (first | assumption | omega | exact Ah _ _ | exact Ap _ | exact A2 _ _ | exact catsT_c _ | rfl | (simp; omega))) | fail)) ?_) | fail)
      | refine r_q hG Y Y Y ?_))
    | (show AL _ _ _ _ _ _ _ _; first | refine al_s Y Y Y ?_ | (refine Aq ?_; first | show AW _ _ _ _ _ _ | show ∃ x', _ < _ ∧ _)) | (show AW _ _ (.seq _ _) _ _ _; refine Ai ?_; intro Q1) | (show AW _ _ (.region _ _ false) _ _ _; refine Af ?_; intro O1) | (show AW _ _ (.ret) _ _ _; refine As ?_; try dsimp only [Au, Ab, At, Ad]) | fail)
  refine Ac rfl (r_owns rfl rfl rfl rfl rfl (concat_b (bs := [b ++ putI s.length 2, s]) ?_ ?_ ?_) (fun k => ?_))
  · simp only [lettersT, lettersOf, Ah, Ap]
  · simp [total]; omega
  · simp
  repeat' (first
    | ((show AL _ _ _ _ _ _ _ _; refine Ac Y ?_); (first
      | refine Ar hG Y Y ?_
      | refine r_asg hG Y Y ?_
      | (show AOp _ _ ⟨_, .call ⟨.builtin .len, _, _⟩, _, _, _, _⟩ _ _ _; first | refine r_lenm hG Y Y Y Y ?_ | refine r_len hG Y Y Y Y Y ?_)
      | (show AOp _ _ ⟨_, .convert _ _ _, _, _, _, _⟩ _ _ _; first | refine r_cv_u64 hG Y Y Y Y Y (by omega) ?_ | refine r_cvw hG Y Y Y Y Y ?_)
      | (show AOp _ _ ⟨_, .buildSlice _ _ _, _, _, _, _⟩ _ _ _; first | refine r_mk (sz := 1) hG Y Y Y Y Y Y Y ?_)
      | refine r_q hG Y Y Y ?_))
    | (show AL _ _ _ _ _ _ _ _; first | refine al_s Y Y Y ?_ | (refine Aq ?_; first | show AW _ _ _ _ _ _ | show ∃ x', _ < _ ∧ _)) | (show AW _ _ (.seq _ _) _ _ _; refine Ai ?_; intro Q1) | (show AW _ _ (.region _ _ false) _ _ _; refine Af ?_; intro O1) | (show AW _ _ (.ret) _ _ _; refine As ?_; try dsimp only [Au, Ab, At, Ad]) | fail)
  exact ret_owns 0 (Am rfl A0) rfl (by simp [putBs]) rfl
end Go.Proofs.Ythfgocinlbogeaa
namespace Go.Proofs.Ythfgocinlbogeaa
open Go.Ts
attribute [local irreducible] Go.Ts.AW Go.Ts.AOps Go.Ts.AL Go.Ts.AOp Go.Ts.ACalls Go.Ts.DL
def takeBE (b : List UInt8) : List UInt8 × Nat × Int :=
  if b.length < 2 then ([], 0, 3) else if b.length - 2 < beV (b.take 2) then ([], 0, 3) else ((b.take (2 + beV (b.take 2))).drop 2, 2 + beV (b.take 2), 0)
def tbT (r : List UInt8 × Nat × Int) : T := .tup [sT r.1, .int .i64 r.2.1, .int .i64 r.2.2]
theorem beV2 (b : List UInt8) (h : 2 ≤ b.length) : beV (b.take 2) < 65536 := by have := beV_lt 2 (b.take 2) (by simp; omega); simpa using this
theorem takeE2 (b : List UInt8) : takeE b 2 = if b.length < 2 then (0, 3) else (beV (b.take 2), 0) := by
  unfold takeE
  rw [if_neg (by omega)]
  by_cases h : b.length < 2
  · rw [if_pos (by omega), if_pos h]
  · rw [if_neg (by omega), if_neg h]; rfl

theorem num_TakeBytes {x : T} {b : List UInt8} (hx : bytesT x = some b) (hl : b.length ≤ 4294967296) : Pure Try.prog 42 [x] (tbT (takeBE b)) := by
  refine Pure.weak (us := [sT b]) ?_ (wk1 (bytesT_wk hx))
  intro off
  refine acalls_mk (N := 29) (rs := [.tmp 2, .tmp 3, .tmp 4]) hG Try.func42 rfl rfl rfl rfl rfl ?_
  have hT := takeE2 b
  by_cases h2 : b.length < 2
  · rw [if_pos h2] at hT
    have hr : takeBE b = ([], 0, 3) := by rw [takeBE, if_pos h2]
    rw [hr]
    have hc := num_Take (n := 2) (Ap b)
    rw [hT] at hc; dsimp only at hc
    repeat' (first
    | ((show AL _ _ _ _ _ _ _ _; refine Ac Y ?_); (first
      | refine Ar hG Y Y ?_
      | refine r_asg hG Y Y ?_
      | (show AOp _ _ ⟨_, .call ⟨.builtin .len, _, _⟩, _, _, _, _⟩ _ _ _; first | refine r_lenm hG Y Y Y Y ?_ | refine r_len hG Y Y Y Y Y ?_)
      | (show AOp _ _ ⟨_, .binOp .add _ _ _ _, _, _, _, _⟩ _ _ _; first | refine Ag hG Y Y Y Y Y (by omega) ?_)
      | (show AOp _ _ ⟨_, .binOp .sub _ _ _ _, _, _, _, _⟩ _ _ _; first | refine Ag hG Y Y Y Y Y (by omega) ?_)
      | (show AOp _ _ ⟨_, .binOp _ _ _ _ _, _, _, _, _⟩ _ _ _; first | refine Az hG Y Y Y Y Y (by omega) ?_ | refine Ax hG Y Y Y Y Y (by omega) ?_ | (refine r_cmp hG Y Y Y Y Y (fun h => ?_) (fun h => ?_)))
      | (show AOp _ _ ⟨_, .convert _ _ _, _, _, _, _⟩ _ _ _; first | refine r_cv_i64 hG Y Y Y Y Y (by omega) ?_ | refine r_cvw hG Y Y Y Y Y ?_)
      | (show AOp _ _ ⟨_, .slice _ _ _ _ _, _, _, _, _⟩ _ _ _; first | refine r_sl_lhn hG Y Y Y Y Y Y Y Y (by omega) ?_ | refine r_sl_lh hG Y Y Y Y Y Y Y Y (by omega) ?_ | refine op_cut0 hG Y Y Y Y Y Y Y Y Y Y ?_ | refine r_sl hG Y Y ?_)
      | (show AOp _ _ ⟨_, .call ⟨.value _, _, _⟩, _, _, _, _⟩ _ _ _; first | refine r_pure Y Y Y Y Y (by first | (apply hc <;> (first | assumption | omega | exact Ah _ _ | exact Ap _ | exact A2 _ _ | exact catsT_c _ | rfl | (simp; omega))) | fail) ?_ | fail)
      | refine r_q hG Y Y Y ?_))
    | (show AL _ _ _ _ _ _ _ _; first | refine al_s Y Y Y ?_ | (refine Aq ?_; first | show AW _ _ _ _ _ _ | show ∃ x', _ < _ ∧ _)) | (show AW _ _ (.seq _ _) _ _ _; refine Ai ?_; intro Q1) | (show AW _ _ (.region _ _ false) _ _ _; refine Af ?_; intro O1) | (show AW _ _ (.cond _ _ _) _ _ _; first | refine Al Y ?_ | refine Ak Y ?_) | (show AW _ _ (.skip) _ _ _; refine Aj ?_; first | show AW _ _ _ _ _ _ | show ∃ x', _ < _ ∧ _) | (show AW _ _ (.ret) _ _ _; refine As ?_; try dsimp only [Au, Ab, At, Ad]) | fail)
    exact ret_pure (Am rfl (Am rfl (Am rfl A0))) (Wk.tupL (wk3 (.nil 1) (.refl _) (.refl _))) rfl
  · rw [if_neg h2] at hT
    have hv := beV2 b (by omega)
    have hc := num_Take (n := 2) (Ap b)
    rw [hT] at hc; dsimp only at hc
    repeat' (first
    | ((show AL _ _ _ _ _ _ _ _; refine Ac Y ?_); (first
      | refine Ar hG Y Y ?_
      | refine r_asg hG Y Y ?_
      | (show AOp _ _ ⟨_, .call ⟨.builtin .len, _, _⟩, _, _, _, _⟩ _ _ _; first | refine r_lenm hG Y Y Y Y ?_ | refine r_len hG Y Y Y Y Y ?_)
      | (show AOp _ _ ⟨_, .binOp .add _ _ _ _, _, _, _, _⟩ _ _ _; first | refine Ag hG Y Y Y Y Y (by omega) ?_)
      | (show AOp _ _ ⟨_, .binOp .sub _ _ _ _, _, _, _, _⟩ _ _ _; first | refine Ag hG Y Y Y Y Y (by omega) ?_)
      | (show AOp _ _ ⟨_, .binOp _ _ _ _ _, _, _, _, _⟩ _ _ _; first | refine Az hG Y Y Y Y Y (by omega) ?_ | refine Ax hG Y Y Y Y Y (by omega) ?_ | (refine r_cmp hG Y Y Y Y Y (fun h => ?_) (fun h => ?_)))
      | (show AOp _ _ ⟨_, .convert _ _ _, _, _, _, _⟩ _ _ _; first | refine r_cv_i64 hG Y Y Y Y Y (by omega) ?_ | refine r_cvw hG Y Y Y Y Y ?_)
      | (show AOp _ _ ⟨_, .slice _ _ _ _ _, _, _, _, _⟩ _ _ _; first | refine r_sl_lhn hG Y Y Y Y Y Y Y Y (by omega) ?_ | refine r_sl_lh hG Y Y Y Y Y Y Y Y (by omega) ?_ | refine op_cut0 hG Y Y Y Y Y Y Y Y Y Y ?_ | refine r_sl hG Y Y ?_)
      | (show AOp _ _ ⟨_, .call ⟨.value _, _, _⟩, _, _, _, _⟩ _ _ _; first | refine r_pure Y Y Y Y Y (by first | (apply hc <;> (first | assumption | omega | exact Ah _ _ | exact Ap _ | exact A2 _ _ | exact catsT_c _ | rfl | (simp; omega))) | fail) ?_ | (refine r_owns Y Y Y Y Y (by first | (apply clone_b <;> (first | assumption | omega | exact Ah _ _ | exact Ap _ | exact A2 _ _ | exact catsT_c _ | rfl | (simp; omega))) | fail) (fun k => ?_)) | (have := kk; clear this; refine r_pure Y Y Y Y Y (Owns.pure (by first | (apply clone_b <;> (first | assumption | omega | exact Ah _ _ | exact Ap _ | exact A2 _ _ | exact catsT_c _ | rfl | (simp; omega))) | fail)) ?_) | fail)
      | refine r_q hG Y Y Y ?_))
    | (show AL _ _ _ _ _ _ _ _; first | refine al_s Y Y Y ?_ | (refine Aq ?_; first | show AW _ _ _ _ _ _ | show ∃ x', _ < _ ∧ _)) | (show AW _ _ (.seq _ _) _ _ _; refine Ai ?_; intro Q1) | (show AW _ _ (.region _ _ false) _ _ _; refine Af ?_; intro O1) | (show AW _ _ (.cond _ _ _) _ _ _; first | refine Al Y ?_ | refine Ak Y ?_) | (show AW _ _ (.skip) _ _ _; refine Aj ?_; first | show AW _ _ _ _ _ _ | show ∃ x', _ < _ ∧ _) | (show AW _ _ (.ret) _ _ _; refine As ?_; try dsimp only [Au, Ab, At, Ad]) | fail)
    · have hr : takeBE b = ([], 0, 3) := by rw [takeBE, if_neg h2, if_pos (by omega)]
      refine ret_pure (Am rfl (Am rfl (Am rfl A0))) ?_ rfl
      rw [hr]
      exact Wk.tupL (wk3 (.nil 1) (.refl _) (.refl _))
    · have hr : takeBE b = ((b.take (2 + beV (b.take 2))).drop 2, 2 + beV (b.take 2), 0) := by rw [takeBE, if_neg h2, if_neg (by omega)]
      refine ret_pure (Am rfl (Am rfl (Am rfl A0))) ?_ rfl
      rw [hr]
      refine Wk.tupL (wk3 ((Wk.own _ _ _).trans (.eq ?_)) (.int (by simp)) (.refl _))
      rw [sT]; congr 3

structure RefX (n : Nat) where
  i : Nat
  k : Nat
  hi : i ≤ n
theorem be_get (v : Nat) : ∀ (n i : Nat), i < n → (be v n)[i]? = some (UInt8.ofNat (v / 2 ^ (8 * (n - 1 - i))))
  | 0, i, h => by omega
  | n + 1, 0, h => by simp [be]
  | n + 1, i + 1, h => by
    simp only [be, List.getElem?_cons_succ]
    rw [be_get v n i (by omega)]
    congr 4; omega
theorem ref_Put {x : T} {b : List UInt8} {v n : Int} (hx : bytesT x = some b) (hl : b.length ≤ 4294967000) (hv : 0 ≤ v) :
    Owns Try.prog 16 [x, .int .u64 v, .int .i64 n] 1 ((b ++ putI v n).map bT) := by
  refine Owns.weak (us := [sT b, .int .u64 v, .int .i64 n]) ?_ (wk3 (bytesT_wk hx) (.refl _) (.refl _))
  intro off
  refine acalls_mk (N := 36) (rs := [.tmp 6]) hG Try.func16 rfl rfl rfl rfl rfl ?_
  repeat' (first
    | ((show AL _ _ _ _ _ _ _ _; refine Ac Y ?_); (first
      | refine Ar hG Y Y ?_
      | refine r_asg hG Y Y ?_
      | (show AOp _ _ ⟨_, .binOp .add _ _ _ _, _, _, _, _⟩ _ _ _; first | refine Ag hG Y Y Y Y Y (by omega) ?_)
      | (show AOp _ _ ⟨_, .binOp .sub _ _ _ _, _, _, _, _⟩ _ _ _; first | refine Ag hG Y Y Y Y Y (by omega) ?_)
      | (show AOp _ _ ⟨_, .binOp .mul _ _ _ _, _, _, _, _⟩ _ _ _; first | refine Ag hG Y Y Y Y Y (by omega) ?_)
      | (show AOp _ _ ⟨_, .binOp .shr _ _ _ _, _, _, _, _⟩ _ _ _; refine r_shr hG Y Y Y Y (by omega) ?_)
      | (show AOp _ _ ⟨_, .binOp _ _ _ _ _, _, _, _, _⟩ _ _ _; first | refine Az hG Y Y Y Y Y (by omega) ?_ | refine Ax hG Y Y Y Y Y (by omega) ?_ | (refine r_cmp hG Y Y Y Y Y (fun h => ?_) (fun h => ?_)))
      | (show AOp _ _ ⟨_, .convert _ _ _, _, _, _, _⟩ _ _ _; first | refine r_cv_u8 hG Y Y Y Y Y (by omega) ?_ | refine r_cvw hG Y Y Y Y Y ?_)
      | refine r_pick hG Y Y Y ?_
      | (show AOp _ _ ⟨_, .buildSlice _ _ _, _, _, _, _⟩ _ _ _; first | refine r_mk (sz := 1) hG Y Y Y Y Y Y Y ?_)
      | (show AOp _ _ ⟨_, .call ⟨.builtin .append, _, _⟩, _, _, _, _⟩ _ _ _; first | refine r_app0m (sz := 1) (xs := []) hG Y Y Y Y Y Y Y ⟨_, Y⟩ Y Y Y Y Y Y Y (by first | omega | (simp; omega)) (fun k => ?_) | refine r_appm 0 hG Y Y Y Y Y Y Y ⟨_, Y⟩ Y Y Y Y Y (by first | omega | (simp only [List.length_append, List.length_cons, List.length_nil]; omega)) (fun k => ?_) | fail)
      | refine r_q hG Y Y Y ?_))
    | (show AL _ _ _ _ _ _ _ _; first | refine al_s Y Y Y ?_ | (refine Aq ?_; first | show AW _ _ _ _ _ _ | show ∃ x', _ < _ ∧ _)) | (show AW _ _ (.seq _ _) _ _ _; refine Ai ?_; intro Q1) | (show AW _ _ (.region _ _ false) _ _ _; refine Af ?_; intro O1) | (show AW _ _ (.cond _ _ _) _ _ _; first | refine Al Y ?_ | refine Ak Y ?_) | (show AW _ _ (.skip) _ _ _; refine Aj ?_; first | show AW _ _ _ _ _ _ | show ∃ x', _ < _ ∧ _) | (show AW _ _ (.block _ _) _ _ _; refine Ay ?_; intro Q1) | (show AW _ _ (.exit _) _ _ _; refine aw_exit ?_; first | show AW _ _ _ _ _ _ | show ∃ x', _ < _ ∧ _) | (show AW _ _ (.ret) _ _ _; refine As ?_; try dsimp only [Au, Ab, At, Ad]) | fail)
  · exact ret_owns 0 (Am rfl A0) rfl (by rw [putI, if_neg (by omega), List.append_nil]; rfl) rfl
  · exact ret_owns 0 (Am rfl A0) rfl (by rw [putI, if_neg (by omega), List.append_nil]; rfl) rfl
  have hn : 0 ≤ n ∧ n ≤ 8 := by omega
  obtain ⟨m, rfl⟩ := Int.eq_ofNat_of_zero_le hn.1
  obtain ⟨v, rfl⟩ := Int.eq_ofNat_of_zero_le hv
  refine aw_loop (X := RefX m) (fun x => [(1, .int .u64 v), (2, .int .i64 m), (7, .sl 1 (.tok x.k) ((b ++ (be v m).take x.i).map bT)), (8, .int .i64 x.i)]) (fun x => ⟨[], [x.k], off, none⟩) (fun x => m - x.i) ⟨0, _, by omega⟩ ?_ (.refl _) ?_
  · exact .cons rfl (.cons rfl (.consW rfl (.eq (by simp)) (.consW rfl (.int rfl) (.nil _))))
  rintro ⟨i, k, hi⟩
  dsimp only
  have hbl := be_length v m
  have htl : ((be v m).take i).length = i := by rw [List.length_take]; omega
  repeat' (first
    | ((show AL _ _ _ _ _ _ _ _; refine Ac Y ?_); (first
      | refine Ar hG Y Y ?_
      | refine r_asg hG Y Y ?_
      | (show AOp _ _ ⟨_, .binOp .add _ _ _ _, _, _, _, _⟩ _ _ _; first | refine Ag hG Y Y Y Y Y (by omega) ?_)
      | (show AOp _ _ ⟨_, .binOp .sub _ _ _ _, _, _, _, _⟩ _ _ _; first | refine Ag hG Y Y Y Y Y (by omega) ?_)
      | (show AOp _ _ ⟨_, .binOp .mul _ _ _ _, _, _, _, _⟩ _ _ _; first | refine Ag hG Y Y Y Y Y (by omega) ?_)
      | (show AOp _ _ ⟨_, .binOp .shr _ _ _ _, _, _, _, _⟩ _ _ _; refine r_shr hG Y Y Y Y (by omega) ?_)
      | (show AOp _ _ ⟨_, .binOp _ _ _ _ _, _, _, _, _⟩ _ _ _; first | refine Az hG Y Y Y Y Y (by omega) ?_ | refine Ax hG Y Y Y Y Y (by omega) ?_ | (refine r_cmp hG Y Y Y Y Y (fun h => ?_) (fun h => ?_)))
      | (show AOp _ _ ⟨_, .convert _ _ _, _, _, _, _⟩ _ _ _; first | refine r_cv_u8 hG Y Y Y Y Y (by omega) ?_ | refine r_cvw hG Y Y Y Y Y ?_)
      | refine r_pick hG Y Y Y ?_
      | (show AOp _ _ ⟨_, .buildSlice _ _ _, _, _, _, _⟩ _ _ _; first | refine r_mk (sz := 1) hG Y Y Y Y Y Y Y ?_)
      | (show AOp _ _ ⟨_, .call ⟨.builtin .append, _, _⟩, _, _, _, _⟩ _ _ _; first | refine r_app0m (sz := 1) (xs := []) hG Y Y Y Y Y Y Y ⟨_, Y⟩ Y Y Y Y Y Y Y (by first | omega | (simp; omega)) (fun k => ?_) | refine r_appm 0 hG Y Y Y Y Y Y Y ⟨_, Y⟩ Y Y Y Y Y (by first | omega | (simp only [List.length_append, List.length_cons, List.length_nil]; omega)) (fun k => ?_) | fail)
      | refine r_q hG Y Y Y ?_))
    | (show AL _ _ _ _ _ _ _ _; first | refine al_s Y Y Y ?_ | (refine Aq ?_; first | show AW _ _ _ _ _ _ | show ∃ x', _ < _ ∧ _)) | (show AW _ _ (.seq _ _) _ _ _; refine Ai ?_; intro Q1) | (show AW _ _ (.region _ _ false) _ _ _; refine Af ?_; intro O1) | (show AW _ _ (.cond _ _ _) _ _ _; first | refine Al Y ?_ | refine Ak Y ?_) | (show AW _ _ (.skip) _ _ _; refine Aj ?_; first | show AW _ _ _ _ _ _ | show ∃ x', _ < _ ∧ _) | (show AW _ _ (.block _ _) _ _ _; refine Ay ?_; intro Q1) | (show AW _ _ (.exit _) _ _ _; refine aw_exit ?_; first | show AW _ _ _ _ _ _ | show ∃ x', _ < _ ∧ _) | (show AW _ _ (.ret) _ _ _; refine As ?_; try dsimp only [Au, Ab, At, Ad]) | fail)
  · have hbyte : T.int IntKind.u8 (IntKind.u8.wrap ((v : Int) / 2 ^ (min (8 * ((m : Int) - 1 - (i : Int))).toNat IntKind.u64.bits))) = bT (UInt8.ofNat (v / 2 ^ (8 * (m - 1 - i)))) := by
      have : min (8 * ((m : Int) - 1 - (i : Int))).toNat IntKind.u64.bits = 8 * (m - 1 - i) := by simp only [IntKind.bits]; omega
      rw [this]
      exact bT_of _ _ (by simp)
    refine Ac rfl (r_appm 0 (ys := [UInt8.ofNat (v / 2 ^ (8 * (m - 1 - i)))]) hG rfl rfl rfl rfl rfl rfl rfl ⟨_, rfl⟩ rfl rfl rfl rfl (congrArg (fun t => [t]) hbyte) (by rw [List.length_append, htl]; simp; omega) (fun k' => ?_))
    repeat' (first
    | ((show AL _ _ _ _ _ _ _ _; refine Ac Y ?_); (first
      | refine Ar hG Y Y ?_
      | refine r_asg hG Y Y ?_
      | (show AOp _ _ ⟨_, .binOp .add _ _ _ _, _, _, _, _⟩ _ _ _; first | refine Ag hG Y Y Y Y Y (by omega) ?_)
      | (show AOp _ _ ⟨_, .binOp .sub _ _ _ _, _, _, _, _⟩ _ _ _; first | refine Ag hG Y Y Y Y Y (by omega) ?_)
      | (show AOp _ _ ⟨_, .binOp .mul _ _ _ _, _, _, _, _⟩ _ _ _; first | refine Ag hG Y Y Y Y Y (by omega) ?_)
      | (show AOp _ _ ⟨_, .binOp .shr _ _ _ _, _, _, _, _⟩ _ _ _; refine r_shr hG Y Y Y Y (by omega) ?_)
      | (show AOp _ _ ⟨_, .binOp _ _ _ _ _, _, _, _, _⟩ _ _ _; first | refine Az hG Y Y Y Y Y (by omega) ?_ | refine Ax hG Y Y Y Y Y (by omega) ?_ | (refine r_cmp hG Y Y Y Y Y (fun h => ?_) (fun h => ?_)))
      | (show AOp _ _ ⟨_, .convert _ _ _, _, _, _, _⟩ _ _ _; first | refine r_cv_u8 hG Y Y Y Y Y (by omega) ?_ | refine r_cvw hG Y Y Y Y Y ?_)
      | refine r_pick hG Y Y Y ?_
      | (show AOp _ _ ⟨_, .buildSlice _ _ _, _, _, _, _⟩ _ _ _; first | refine r_mk (sz := 1) hG Y Y Y Y Y Y Y ?_)
      | (show AOp _ _ ⟨_, .call ⟨.builtin .append, _, _⟩, _, _, _, _⟩ _ _ _; first | refine r_app0m (sz := 1) (xs := []) hG Y Y Y Y Y Y Y ⟨_, Y⟩ Y Y Y Y Y Y Y (by first | omega | (simp; omega)) (fun k => ?_) | refine r_appm 0 hG Y Y Y Y Y Y Y ⟨_, Y⟩ Y Y Y Y Y (by first | omega | (simp only [List.length_append, List.length_cons, List.length_nil]; omega)) (fun k => ?_) | fail)
      | refine r_q hG Y Y Y ?_))
    | (show AL _ _ _ _ _ _ _ _; first | refine al_s Y Y Y ?_ | (refine Aq ?_; first | show AW _ _ _ _ _ _ | show ∃ x', _ < _ ∧ _)) | (show AW _ _ (.seq _ _) _ _ _; refine Ai ?_; intro Q1) | (show AW _ _ (.region _ _ false) _ _ _; refine Af ?_; intro O1) | (show AW _ _ (.cond _ _ _) _ _ _; first | refine Al Y ?_ | refine Ak Y ?_) | (show AW _ _ (.skip) _ _ _; refine Aj ?_; first | show AW _ _ _ _ _ _ | show ∃ x', _ < _ ∧ _) | (show AW _ _ (.block _ _) _ _ _; refine Ay ?_; intro Q1) | (show AW _ _ (.exit _) _ _ _; refine aw_exit ?_; first | show AW _ _ _ _ _ _ | show ∃ x', _ < _ ∧ _) | (show AW _ _ (.ret) _ _ _; refine As ?_; try dsimp only [Au, Ab, At, Ad]) | fail)
    refine ⟨⟨i + 1, k', by omega⟩, by dsimp only; omega, ?_, .refl _⟩
    refine .cons rfl (.cons rfl (.consW rfl (.eq ?_) (.consW rfl (.int (by simp)) (.nil _))))
    have hg := be_get v m i (by omega)
    rw [List.getElem?_eq_getElem (by omega)] at hg
    injection hg with hg
    rw [List.take_succ_eq_append_getElem (by omega), hg]
    simp
  · obtain rfl : i = m := by omega
    exact ret_owns 0 (Am rfl A0) rfl (by rw [putI, if_pos hn, List.take_of_length_le (by omega)]; simp) rfl

theorem ref_Take {x : T} {b : List UInt8} {n : Int} (hx : bytesT x = some b) : Pure Try.prog 15 [x, .int .i64 n] (.tup [.int .u64 (takeE b n).1, .int .i64 (takeE b n).2]) := by
  refine Pure.weak (us := [sT b, .int .i64 n]) ?_ (wk2 (bytesT_wk hx) (.refl _))
  intro off
  refine acalls_mk (N := 32) (rs := [.tmp 4, .tmp 5]) hG Try.func15 rfl rfl rfl rfl rfl ?_
  repeat' (first
    | ((show AL _ _ _ _ _ _ _ _; refine Ac Y ?_); (first
      | refine Ar hG Y Y ?_
      | refine r_asg hG Y Y ?_
      | (show AOp _ _ ⟨_, .call ⟨.builtin .len, _, _⟩, _, _, _, _⟩ _ _ _; first | refine r_lenm hG Y Y Y Y ?_ | refine r_len hG Y Y Y Y Y ?_)
      | (show AOp _ _ ⟨_, .binOp .add _ _ _ _, _, _, _, _⟩ _ _ _; first | refine Ag hG Y Y Y Y Y (by omega) ?_)
      | (show AOp _ _ ⟨_, .binOp .shl _ _ _ _, _, _, _, _⟩ _ _ _; refine r_shl hG Y Y Y Y (by omega) ?_)
      | (show AOp _ _ ⟨_, .binOp _ _ _ _ _, _, _, _, _⟩ _ _ _; first | refine Az hG Y Y Y Y Y (by omega) ?_ | refine Ax hG Y Y Y Y Y (by omega) ?_ | (refine r_cmp hG Y Y Y Y Y (fun h => ?_) (fun h => ?_)) | refine r_bin' hG Y Y Y ?_)
      | (show AOp _ _ ⟨_, .load _ _, _, _, _, _⟩ _ _ _; first | refine r_ldro hG Y Y Y ?_ | refine r_ld 0 hG Y Y Y Y ?_)
      | (show AOp _ _ ⟨_, .indexAddr _ _ _, _, _, _, _⟩ _ _ _; first | refine r_idxn hG Y Y Y Y Y Y Y (by omega) ?_ | refine r_idxm hG Y Y Y Y Y Y Y (by omega) ?_ | refine r_idx hG Y Y ?_)
      | (show AOp _ _ ⟨_, .convert _ _ _, _, _, _, _⟩ _ _ _; first | refine r_cv8 hG Y Y Y Y Y Y ?_ | refine r_cv_u64 hG Y Y Y Y Y (by omega) ?_ | refine r_cvw hG Y Y Y Y Y ?_)
      | refine r_pick hG Y Y Y ?_
      | refine r_q hG Y Y Y ?_))
    | (show AL _ _ _ _ _ _ _ _; first | refine al_s Y Y Y ?_ | (refine Aq ?_; first | show AW _ _ _ _ _ _ | show ∃ x', _ < _ ∧ _)) | (show AW _ _ (.seq _ _) _ _ _; refine Ai ?_; intro Q1) | (show AW _ _ (.region _ _ false) _ _ _; refine Af ?_; intro O1) | (show AW _ _ (.cond _ _ _) _ _ _; first | refine Al Y ?_ | refine Ak Y ?_) | (show AW _ _ (.skip) _ _ _; refine Aj ?_; first | show AW _ _ _ _ _ _ | show ∃ x', _ < _ ∧ _) | (show AW _ _ (.block _ _) _ _ _; refine Ay ?_; intro Q1) | (show AW _ _ (.exit _) _ _ _; refine aw_exit ?_; first | show AW _ _ _ _ _ _ | show ∃ x', _ < _ ∧ _) | (show AW _ _ (.ret) _ _ _; refine As ?_; try dsimp only [Au, Ab, At, Ad]) | fail)
  · exact ret_pure (Am rfl (Am rfl A0)) (.eq (by rw [takeE, if_pos (by omega)]; rfl)) rfl
  · exact ret_pure (Am rfl (Am rfl A0)) (.eq (by rw [takeE, if_pos (by omega)]; rfl)) rfl
  · exact ret_pure (Am rfl (Am rfl A0)) (.eq (by rw [takeE, if_neg (by omega), if_pos (by omega)]; rfl)) rfl
  have hn : 0 ≤ n ∧ n ≤ 8 ∧ n ≤ b.length := by omega
  refine aw_loop (X := TakeX b n) (fun x => [(0, sT b), (1, .int .i64 n), (6, .int .u64 (beV (b.take x.i))), (7, .int .i64 x.i)]) (fun x => ⟨[], [], off, none⟩) (fun x => n.toNat - x.i) ⟨0, hn, by omega⟩ ?_ (.refl _) ?_
  · exact .cons rfl (.cons rfl (.consW rfl (.int (by simp [beV])) (.consW rfl (.int rfl) (.nil _))))
  rintro ⟨i, hn, hi⟩
  dsimp only
  repeat' (first
    | ((show AL _ _ _ _ _ _ _ _; refine Ac Y ?_); (first
      | refine Ar hG Y Y ?_
      | refine r_asg hG Y Y ?_
      | (show AOp _ _ ⟨_, .call ⟨.builtin .len, _, _⟩, _, _, _, _⟩ _ _ _; first | refine r_lenm hG Y Y Y Y ?_ | refine r_len hG Y Y Y Y Y ?_)
      | (show AOp _ _ ⟨_, .binOp .add _ _ _ _, _, _, _, _⟩ _ _ _; first | refine Ag hG Y Y Y Y Y (by omega) ?_)
      | (show AOp _ _ ⟨_, .binOp .shl _ _ _ _, _, _, _, _⟩ _ _ _; refine r_shl hG Y Y Y Y (by omega) ?_)
      | (show AOp _ _ ⟨_, .binOp _ _ _ _ _, _, _, _, _⟩ _ _ _; first | refine Az hG Y Y Y Y Y (by omega) ?_ | refine Ax hG Y Y Y Y Y (by omega) ?_ | (refine r_cmp hG Y Y Y Y Y (fun h => ?_) (fun h => ?_)) | refine r_bin' hG Y Y Y ?_)
      | (show AOp _ _ ⟨_, .load _ _, _, _, _, _⟩ _ _ _; first | refine r_ldro hG Y Y Y ?_ | refine r_ld 0 hG Y Y Y Y ?_)
      | (show AOp _ _ ⟨_, .indexAddr _ _ _, _, _, _, _⟩ _ _ _; first | refine r_idxn hG Y Y Y Y Y Y Y (by omega) ?_ | refine r_idxm hG Y Y Y Y Y Y Y (by omega) ?_ | refine r_idx hG Y Y ?_)
      | (show AOp _ _ ⟨_, .convert _ _ _, _, _, _, _⟩ _ _ _; first | refine r_cv8 hG Y Y Y Y Y Y ?_ | refine r_cv_u64 hG Y Y Y Y Y (by omega) ?_ | refine r_cvw hG Y Y Y Y Y ?_)
      | refine r_pick hG Y Y Y ?_
      | refine r_q hG Y Y Y ?_))
    | (show AL _ _ _ _ _ _ _ _; first | refine al_s Y Y Y ?_ | (refine Aq ?_; first | show AW _ _ _ _ _ _ | show ∃ x', _ < _ ∧ _)) | (show AW _ _ (.seq _ _) _ _ _; refine Ai ?_; intro Q1) | (show AW _ _ (.region _ _ false) _ _ _; refine Af ?_; intro O1) | (show AW _ _ (.cond _ _ _) _ _ _; first | refine Al Y ?_ | refine Ak Y ?_) | (show AW _ _ (.skip) _ _ _; refine Aj ?_; first | show AW _ _ _ _ _ _ | show ∃ x', _ < _ ∧ _) | (show AW _ _ (.block _ _) _ _ _; refine Ay ?_; intro Q1) | (show AW _ _ (.exit _) _ _ _; refine aw_exit ?_; first | show AW _ _ _ _ _ _ | show ∃ x', _ < _ ∧ _) | (show AW _ _ (.ret) _ _ _; refine As ?_; try dsimp only [Au, Ab, At, Ad]) | fail)
  · refine ⟨⟨i + 1, hn, by omega⟩, by dsimp only; omega, ?_, .refl _⟩
    exact .cons rfl (.cons rfl (.consW rfl (.int (take_step b i (by omega) (by omega))) (.consW rfl (.int (by simp)) (.nil _))))
  · refine ret_pure (Am rfl (Am rfl A0)) (.eq ?_) rfl
    have : i = n.toNat := by omega
    subst this
    rw [takeE, if_neg (by omega), if_neg (by omega)]; rfl

end Go.Proofs.Ythfgocinlbogeaa
namespace Go.Proofs.Ythfgocinlbogeaa
open Go.Ts Go.Sets
attribute [local irreducible] Go.Ts.AW Go.Ts.AOps Go.Ts.AL Go.Ts.AOp Go.Ts.ACalls Go.Ts.DL
theorem num_Take_is {x : T} {b : List UInt8} {n e : Int} {v : Nat} (hx : bytesT x = some b) (h : takeE b n = (v, e)) : Pure Try.prog 14 [x, .int .i64 n] (.tup [.int .u64 v, .int .i64 e]) := by
  have := num_Take (n := n) hx; rw [h] at this; exact this
end Go.Proofs.Ythfgocinlbogeaa
namespace Go.Ts
section
variable {P : Program} {G : Nat → Option TI} {N : Nat} {σ : St} {a : Env} {K : Env → St → Prop} {d : Tmp} {ty : TypeId} {pos : String} {af : Array Edge} {gd : Option (Nat × Bool)}
structure SB where
  id : Nat
  bs : List UInt8
  taken : Bool
  turn : Int
  hid : id < 18446744073709551616
instance : Inhabited SB := ⟨⟨0, [], false, 0, by decide⟩⟩
def recT (s : SB) : T := cond s.taken (.sl 1 .no (s.bs.map bT)) .nilsl
def sbT (s : SB) : T := .agg [.int .u64 (s.id : Int), recT s, .bool s.taken, .int .i64 s.turn]
theorem recT_sc (s : SB) : (recT s).scalar = true := by unfold recT; cases s.taken <;> rfl
instance : Enc sbT 4 := ⟨(fun s c h => by
  simp only [sbT, T.cells] at h
  rcases List.mem_cons.1 h with rfl | h
  · rfl
  · rcases List.mem_cons.1 h with rfl | h
    · exact recT_sc s
    · rcases List.mem_cons.1 h with rfl | h
      · rfl
      · rcases List.mem_cons.1 h with rfl | h
        · rfl
        · cases h), fun s => rfl⟩
end
end Go.Ts
namespace Go.Proofs.Ythfgocinlbogeaa
open Go.Ts
set_option linter.unusedSimpArgs false
set_option linter.unusedVariables false
set_option linter.unnecessarySimpa false
attribute [local irreducible] Go.Ts.AW Go.Ts.AOps Go.Ts.AL Go.Ts.AOp Go.Ts.ACalls Go.Ts.DL Go.Ts.DQ0 Go.Ts.EL
end Go.Proofs.Ythfgocinlbogeaa
namespace Go.Ts
set_option linter.unusedSimpArgs false
set_option linter.unusedVariables false
section
variable {G : Nat → Option TI}
theorem wf_u8 {n : Int} (h : (Lit.int .u8 n).wf = true) : 0 ≤ n ∧ n < 256 := by
  simp only [Lit.wf, IntKind.min, IntKind.max, IntKind.bits, IntKind.signed, Bool.and_eq_true] at h; simp at h; omega
theorem wf_u64 {n : Int} (h : (Lit.int .u64 n).wf = true) : 0 ≤ n ∧ n < 18446744073709551616 := by
  simp only [Lit.wf, IntKind.min, IntKind.max, IntKind.bits, IntKind.signed, Bool.and_eq_true] at h; simp at h; omega
theorem argTy_cells {n t : Nat} {x : T} {ti : TI} (h : ArgTy G n t x) (ht : G t = some ti) (hd : ti.d.agg = false) : Ty G n t [x] := by
  have h1 := h.1
  rwa [(h.2 _ ht).2 hd] at h1
theorem ty_slice {n t e : Nat} {cs : List T} {ti : TI} (h : Ty G (n + 1) t cs) (ht : G t = some ti) (htd : ti.d = .slice e) :
    ∃ xs, cs = [.sl ((sizeT G e).getD 0) .no xs] ∧ xs.length ≤ bigLen ∧ ∀ y ∈ xs, Ty G n e y.cells ∧ AggOK G e y := by
  simpa only [Ty, ht, htd] using h
theorem bytes_of_ty {n e : Nat} {ie : TI} (he : G e = some ie) (hed : ie.d = .int .u8) : ∀ (xs : List T), (∀ y ∈ xs, Ty G (n + 1) e y.cells ∧ AggOK G e y) → ∃ b : List UInt8, xs = b.map bT
  | [], _ => ⟨[], rfl⟩
  | x :: xs, h => by
    obtain ⟨b, hb⟩ := bytes_of_ty he hed xs (fun y hy => h y (List.mem_cons_of_mem _ hy))
    obtain ⟨h1, h2⟩ := h x List.mem_cons_self
    simp only [Ty, he, hed] at h1
    obtain ⟨v, hv, hw⟩ := h1
    obtain ⟨l, u⟩ := wf_u8 hw
    refine ⟨UInt8.ofNat v.toNat :: b, ?_⟩
    have : x = .int .u8 v := by
      have h5 := (h2 _ he).2 (by rw [hed]; rfl)
      rw [h5] at hv; injection hv
    subst this
    rw [hb, List.map_cons]
    congr 1
    unfold bT
    have : (UInt8.ofNat v.toNat).toNat = v.toNat := by simp [UInt8.toNat_ofNat]; omega
    rw [this]; congr 1; omega
theorem ty_bytes {n t e : Nat} {cs : List T} {ti ie : TI} (h : Ty G (n + 2) t cs) (ht : G t = some ti) (htd : ti.d = .slice e) (he : G e = some ie) (hed : ie.d = .int .u8) (hs : ie.size = 1) : ∃ b : List UInt8, cs = [sT b] ∧ b.length ≤ bigLen := by
  obtain ⟨xs, h1, h2, h3⟩ := ty_slice h ht htd
  obtain ⟨b, rfl⟩ := bytes_of_ty he hed xs h3
  exact ⟨b, by rw [h1]; simp [sizeT, he, hs, sT], by simpa using h2⟩
theorem argTy_bytes {n t e : Nat} {x : T} {ti ie : TI} (h : ArgTy G (n + 2) t x) (ht : G t = some ti) (htd : ti.d = .slice e) (he : G e = some ie) (hed : ie.d = .int .u8) (hs : ie.size = 1) : ∃ b : List UInt8, x = sT b ∧ b.length ≤ bigLen := by
  obtain ⟨b, h1, h2⟩ := ty_bytes (argTy_cells h ht (by rw [htd]; rfl)) ht htd he hed hs
  injection h1 with h1
  exact ⟨b, h1, h2⟩
end
end Go.Ts
namespace Go.Ts
section
variable {P : Program} {G : Nat → Option TI} {N : Nat} {σ : St} {a : Env} {K : Env → St → Prop} {d : Tmp} {ty : TypeId} {pos : String} {af : Array Edge} {gd : Option (Nat × Bool)}
theorem OnL.weak {g : FuncId} {ts us : List T} {L0 : List (Nat × Ob)} {R : T → List (Nat × Ob) → Prop} (h : OnL P g us L0 R) (hw : WkL ts us) : OnL P g ts L0 R := fun off => (h off).weakL hw
theorem r_onL0 {f : Operand} {args : Array Operand} {tys : Array TypeId} {g : FuncId} {ts : List T} {L0 : List (Nat × Ob)} {R : T → List (Nat × Ob) → Prop}
    (hf : Aa a f = some (.fn (.func g) [])) (ha : argsT a args.toList = some ts) (hd : Ae N (some d) = true) (hnx : σ.nx = none) (hL : σ.L = L0) (h : OnL P g ts L0 R)
    (k : ∀ u L', R u L' → K (put a (some d) u) { σ with L := L' }) : AOp P N ⟨some d, .call ⟨.value f, args, tys⟩, ty, pos, af, gd⟩ a σ K := by
  refine r_onL hf ha hd hnx (Lf := []) (by rw [hL, List.append_nil]) h ?_
  intro u L' hR
  rw [List.append_nil]; exact k u L' hR
end
end Go.Ts
namespace Go.Proofs.Ythfgocinlbogeaa
open Go.Ts
set_option linter.unusedSimpArgs false
set_option linter.unusedVariables false
set_option linter.unnecessarySimpa false
attribute [local irreducible] Go.Ts.AW Go.Ts.AOps Go.Ts.AL Go.Ts.AOp Go.Ts.ACalls Go.Ts.DL Go.Ts.DQ0 Go.Ts.EL
end Go.Proofs.Ythfgocinlbogeaa
namespace Go.Proofs.Ythfgocinlbogeaa
open Go.Ts
set_option linter.unusedSimpArgs false
set_option linter.unusedVariables false
set_option linter.unnecessarySimpa false
attribute [local irreducible] Go.Ts.AW Go.Ts.AOps Go.Ts.AL Go.Ts.AOp Go.Ts.ACalls Go.Ts.DL Go.Ts.DQ0 Go.Ts.EL
def twL (b : List UInt8) : List UInt8 := b ++ [0xe5, 0xe5, 0xe5]
structure TwX (b : List UInt8) where
  i : Nat
  l : List UInt8
  hi : i ≤ b.length + 3
  h0 : b.length ≤ i
  hl : l = b ++ List.replicate (i - b.length) 0xe5 ++ List.replicate (b.length + 3 - i) 0
theorem law_Twin {b : List UInt8} (hb : b.length ≤ 4294967000) : OnL Try.prog 11 [sT b] [] (fun u L => ∃ i, u = .aref 1 i 0 b.length (some (b.length + 3)) ∧ L = [(i, .cells ((twL b).map bT))]) := by
  intro off
  refine acalls_mk (N := 27) (rs := [.tmp 2]) hG Try.func11 rfl rfl rfl rfl rfl ?_
  repeat' (first
    | ((show AL _ _ _ _ _ _ _ _; refine Ac Y ?_); (first
      | refine Ar hG Y Y ?_
      | refine r_asg hG Y Y ?_
      | (show AOp _ _ ⟨_, .call ⟨.builtin .len, _, _⟩, _, _, _, _⟩ _ _ _; first | refine r_lenm hG Y Y Y Y ?_ | refine r_len hG Y Y Y Y Y ?_)
      | (show AOp _ _ ⟨_, .binOp .add _ _ _ _, _, _, _, _⟩ _ _ _; first | refine r_arN hG Y Y Y Y Y (by omega) ?_ | refine r_arN (m := 1) hG Y Y Y Y Y (by omega) ?_ | refine Ag hG Y Y Y Y Y (by omega) ?_)
      | (show AOp _ _ ⟨_, .binOp _ _ _ _ _, _, _, _, _⟩ _ _ _; first | refine Az hG Y Y Y Y Y (by omega) ?_ | refine Ax hG Y Y Y Y Y (by omega) ?_ | (refine r_cmp hG Y Y Y Y Y (fun h => ?_) (fun h => ?_)))
      | (show AOp _ _ ⟨_, .indexAddr _ _ _, _, _, _, _⟩ _ _ _; first | refine r_idxL hG Y Y Y Y Y Y Y (by omega) ?_ | refine r_idxn hG Y Y Y Y Y Y Y (by omega) ?_ | refine r_idxm hG Y Y Y Y Y Y Y (by omega) ?_ | refine r_idx hG Y Y ?_)
      | (show AOp _ _ ⟨_, .slice _ _ _ _ _, _, _, _, _⟩ _ _ _; first | refine r_slC hG Y Y Y Y Y Y Y (by first | omega | (simp; omega)) ?_ | refine r_sl_hin hG Y Y Y Y Y Y Y (by omega) ?_ | refine r_sl_hi hG Y Y Y Y Y Y Y (by omega) ?_ | refine op_cut0 hG Y Y Y Y Y Y Y Y Y Y ?_ | refine r_sl hG Y Y ?_)
      | (show AOp _ _ ⟨_, .store _ _ _, _, _, _, _⟩ _ _ _; first | refine r_stL (α := UInt16) 0 hG Y Y Y hT_cells hT_sc Y Y (by first | omega | (simp only [Array.size_setIfInBounds]; omega)) ?_ | refine r_stL (α := UInt16) 1 hG Y Y Y hT_cells hT_sc Y Y (by first | omega | (simp only [Array.size_setIfInBounds]; omega)) ?_ | refine r_st 0 hG Y Y Y Y Y Y Y ?_)
      | refine r_q hG Y Y Y ?_))
    | (show AL _ _ _ _ _ _ _ _; first | refine al_s Y Y Y ?_ | (refine Aq ?_; first | show AW _ _ _ _ _ _ | show ∃ x', _ < _ ∧ _)) | (show AW _ _ (.seq _ _) _ _ _; refine Ai ?_; intro Q1) | (show AW _ _ (.region _ _ false) _ _ _; refine Af ?_; intro O1) | (show AW _ _ (.cond _ _ _) _ _ _; first | refine Al Y ?_ | refine Ak Y ?_ | refine aw_if Y (fun h => ?_) (fun h => ?_)) | (show AW _ _ (.skip) _ _ _; refine Aj ?_; first | show AW _ _ _ _ _ _ | show ∃ x', _ < _ ∧ _) | (show AW _ _ (.block _ _) _ _ _; refine Ay ?_; intro Q1) | (show AW _ _ (.exit _) _ _ _; refine aw_exit ?_; first | show AW _ _ _ _ _ _ | show ∃ x', _ < _ ∧ _) | (show AW _ _ (.ret) _ _ _; refine As ?_; try dsimp only [Au, Ab, At, Ad]) | fail)
  refine Ac rfl (r_mkB (z := b.length + 3) hG rfl rfl rfl rfl rfl rfl rfl rfl rfl (by omega) (fun i => ?_))
  repeat' (first
    | ((show AL _ _ _ _ _ _ _ _; refine Ac Y ?_); (first
      | refine Ar hG Y Y ?_
      | refine r_asg hG Y Y ?_
      | (show AOp _ _ ⟨_, .call ⟨.builtin .len, _, _⟩, _, _, _, _⟩ _ _ _; first | refine r_lenm hG Y Y Y Y ?_ | refine r_len hG Y Y Y Y Y ?_)
      | (show AOp _ _ ⟨_, .binOp .add _ _ _ _, _, _, _, _⟩ _ _ _; first | refine r_arN hG Y Y Y Y Y (by omega) ?_ | refine r_arN (m := 1) hG Y Y Y Y Y (by omega) ?_ | refine Ag hG Y Y Y Y Y (by omega) ?_)
      | (show AOp _ _ ⟨_, .binOp _ _ _ _ _, _, _, _, _⟩ _ _ _; first | refine Az hG Y Y Y Y Y (by omega) ?_ | refine Ax hG Y Y Y Y Y (by omega) ?_ | (refine r_cmp hG Y Y Y Y Y (fun h => ?_) (fun h => ?_)))
      | (show AOp _ _ ⟨_, .indexAddr _ _ _, _, _, _, _⟩ _ _ _; first | refine r_idxL hG Y Y Y Y Y Y Y (by omega) ?_ | refine r_idxn hG Y Y Y Y Y Y Y (by omega) ?_ | refine r_idxm hG Y Y Y Y Y Y Y (by omega) ?_ | refine r_idx hG Y Y ?_)
      | (show AOp _ _ ⟨_, .slice _ _ _ _ _, _, _, _, _⟩ _ _ _; first | refine r_slC hG Y Y Y Y Y Y Y (by first | omega | (simp; omega)) ?_ | refine r_sl_hin hG Y Y Y Y Y Y Y (by omega) ?_ | refine r_sl_hi hG Y Y Y Y Y Y Y (by omega) ?_ | refine op_cut0 hG Y Y Y Y Y Y Y Y Y Y ?_ | refine r_sl hG Y Y ?_)
      | (show AOp _ _ ⟨_, .store _ _ _, _, _, _, _⟩ _ _ _; first | refine r_stL (α := UInt16) 0 hG Y Y Y hT_cells hT_sc Y Y (by first | omega | (simp only [Array.size_setIfInBounds]; omega)) ?_ | refine r_stL (α := UInt16) 1 hG Y Y Y hT_cells hT_sc Y Y (by first | omega | (simp only [Array.size_setIfInBounds]; omega)) ?_ | refine r_st 0 hG Y Y Y Y Y Y Y ?_)
      | refine r_q hG Y Y Y ?_))
    | (show AL _ _ _ _ _ _ _ _; first | refine al_s Y Y Y ?_ | (refine Aq ?_; first | show AW _ _ _ _ _ _ | show ∃ x', _ < _ ∧ _)) | (show AW _ _ (.seq _ _) _ _ _; refine Ai ?_; intro Q1) | (show AW _ _ (.region _ _ false) _ _ _; refine Af ?_; intro O1) | (show AW _ _ (.cond _ _ _) _ _ _; first | refine Al Y ?_ | refine Ak Y ?_ | refine aw_if Y (fun h => ?_) (fun h => ?_)) | (show AW _ _ (.skip) _ _ _; refine Aj ?_; first | show AW _ _ _ _ _ _ | show ∃ x', _ < _ ∧ _) | (show AW _ _ (.block _ _) _ _ _; refine Ay ?_; intro Q1) | (show AW _ _ (.exit _) _ _ _; refine aw_exit ?_; first | show AW _ _ _ _ _ _ | show ∃ x', _ < _ ∧ _) | (show AW _ _ (.ret) _ _ _; refine As ?_; try dsimp only [Au, Ab, At, Ad]) | fail)
  refine Ac rfl (aop_copyL (n := 0) (ys := b.map bT) hG rfl rfl rfl rfl rfl rfl rfl rfl (by simp [List.all_map, bT, T.scalar]) rfl ⟨by simp, by simp⟩ rfl ?_)
  repeat' (first
    | ((show AL _ _ _ _ _ _ _ _; refine Ac Y ?_); (first
      | refine Ar hG Y Y ?_
      | refine r_asg hG Y Y ?_
      | (show AOp _ _ ⟨_, .call ⟨.builtin .len, _, _⟩, _, _, _, _⟩ _ _ _; first | refine r_lenm hG Y Y Y Y ?_ | refine r_len hG Y Y Y Y Y ?_)
      | (show AOp _ _ ⟨_, .binOp .add _ _ _ _, _, _, _, _⟩ _ _ _; first | refine r_arN hG Y Y Y Y Y (by omega) ?_ | refine r_arN (m := 1) hG Y Y Y Y Y (by omega) ?_ | refine Ag hG Y Y Y Y Y (by omega) ?_)
      | (show AOp _ _ ⟨_, .binOp _ _ _ _ _, _, _, _, _⟩ _ _ _; first | refine Az hG Y Y Y Y Y (by omega) ?_ | refine Ax hG Y Y Y Y Y (by omega) ?_ | (refine r_cmp hG Y Y Y Y Y (fun h => ?_) (fun h => ?_)))
      | (show AOp _ _ ⟨_, .indexAddr _ _ _, _, _, _, _⟩ _ _ _; first | refine r_idxL hG Y Y Y Y Y Y Y (by omega) ?_ | refine r_idxn hG Y Y Y Y Y Y Y (by omega) ?_ | refine r_idxm hG Y Y Y Y Y Y Y (by omega) ?_ | refine r_idx hG Y Y ?_)
      | (show AOp _ _ ⟨_, .slice _ _ _ _ _, _, _, _, _⟩ _ _ _; first | refine r_slC hG Y Y Y Y Y Y Y (by first | omega | (simp; omega)) ?_ | refine r_sl_hin hG Y Y Y Y Y Y Y (by omega) ?_ | refine r_sl_hi hG Y Y Y Y Y Y Y (by omega) ?_ | refine op_cut0 hG Y Y Y Y Y Y Y Y Y Y ?_ | refine r_sl hG Y Y ?_)
      | (show AOp _ _ ⟨_, .store _ _ _, _, _, _, _⟩ _ _ _; first | refine r_stL (α := UInt16) 0 hG Y Y Y hT_cells hT_sc Y Y (by first | omega | (simp only [Array.size_setIfInBounds]; omega)) ?_ | refine r_stL (α := UInt16) 1 hG Y Y Y hT_cells hT_sc Y Y (by first | omega | (simp only [Array.size_setIfInBounds]; omega)) ?_ | refine r_st 0 hG Y Y Y Y Y Y Y ?_)
      | refine r_q hG Y Y Y ?_))
    | (show AL _ _ _ _ _ _ _ _; first | refine al_s Y Y Y ?_ | (refine Aq ?_; first | show AW _ _ _ _ _ _ | show ∃ x', _ < _ ∧ _)) | (show AW _ _ (.seq _ _) _ _ _; refine Ai ?_; intro Q1) | (show AW _ _ (.region _ _ false) _ _ _; refine Af ?_; intro O1) | (show AW _ _ (.cond _ _ _) _ _ _; first | refine Al Y ?_ | refine Ak Y ?_ | refine aw_if Y (fun h => ?_) (fun h => ?_)) | (show AW _ _ (.skip) _ _ _; refine Aj ?_; first | show AW _ _ _ _ _ _ | show ∃ x', _ < _ ∧ _) | (show AW _ _ (.block _ _) _ _ _; refine Ay ?_; intro Q1) | (show AW _ _ (.exit _) _ _ _; refine aw_exit ?_; first | show AW _ _ _ _ _ _ | show ∃ x', _ < _ ∧ _) | (show AW _ _ (.ret) _ _ _; refine As ?_; try dsimp only [Au, Ab, At, Ad]) | fail)
  have e0 : Go.Ts.stored ((List.replicate (b.length + 3) (0 : UInt8)).map bT) (b.map bT) 0 = (b ++ List.replicate 3 0).map bT := by
    unfold Go.Ts.stored
    simp
  refine aw_loop (X := TwX b) (fun x => [(0, sT b), (3, .aref 1 i 0 (b.length + 3) (some (b.length + 3))), (4, .int .i64 (x.i : Int))]) (fun x => ⟨[(i, .cells (x.l.map bT))], [], off, none⟩) (fun x => b.length + 3 - x.i) ⟨b.length, b ++ List.replicate 3 0, by omega, Nat.le_refl _, by simp⟩ (by repeat (first | exact .nil _ | refine .cons rfl ?_)) (by
    show Go.Ts.GStep ⟨[(i, .cells (Go.Ts.stored ((List.replicate (b.length + 3) (0 : UInt8)).map bT) (b.map bT) 0))], [], off, none⟩ _
    rw [e0]; exact .refl _) ?_
  rintro ⟨q, l, hi, h0, hl⟩
  have hll : l.length = b.length + 3 := by rw [hl]; simp; omega
  dsimp only
  by_cases hq : q < b.length + 3
  · repeat' (first
    | ((show AL _ _ _ _ _ _ _ _; refine Ac Y ?_); (first
      | refine Ar hG Y Y ?_
      | refine r_asg hG Y Y ?_
      | (show AOp _ _ ⟨_, .call ⟨.builtin .len, _, _⟩, _, _, _, _⟩ _ _ _; first | refine r_lenm hG Y Y Y Y ?_ | refine r_len hG Y Y Y Y Y ?_)
      | (show AOp _ _ ⟨_, .binOp .add _ _ _ _, _, _, _, _⟩ _ _ _; first | refine r_arN hG Y Y Y Y Y (by omega) ?_ | refine r_arN (m := 1) hG Y Y Y Y Y (by omega) ?_ | refine Ag hG Y Y Y Y Y (by omega) ?_)
      | (show AOp _ _ ⟨_, .binOp _ _ _ _ _, _, _, _, _⟩ _ _ _; first | refine Az hG Y Y Y Y Y (by omega) ?_ | refine Ax hG Y Y Y Y Y (by omega) ?_ | (refine r_cmp hG Y Y Y Y Y (fun h => ?_) (fun h => ?_)))
      | (show AOp _ _ ⟨_, .indexAddr _ _ _, _, _, _, _⟩ _ _ _; first | refine r_idxL hG Y Y Y Y Y Y Y (by omega) ?_ | refine r_idxn hG Y Y Y Y Y Y Y (by omega) ?_ | refine r_idxm hG Y Y Y Y Y Y Y (by omega) ?_ | refine r_idx hG Y Y ?_)
      | (show AOp _ _ ⟨_, .slice _ _ _ _ _, _, _, _, _⟩ _ _ _; first | refine r_slC hG Y Y Y Y Y Y Y (by first | omega | (simp; omega)) ?_ | refine r_sl_hin hG Y Y Y Y Y Y Y (by omega) ?_ | refine r_sl_hi hG Y Y Y Y Y Y Y (by omega) ?_ | refine op_cut0 hG Y Y Y Y Y Y Y Y Y Y ?_ | refine r_sl hG Y Y ?_)
      | (show AOp _ _ ⟨_, .store _ _ _, _, _, _, _⟩ _ _ _; fail)
      | refine r_q hG Y Y Y ?_))
    | (show AL _ _ _ _ _ _ _ _; first | refine al_s Y Y Y ?_ | (refine Aq ?_; first | show AW _ _ _ _ _ _ | show ∃ x', _ < _ ∧ _)) | (show AW _ _ (.seq _ _) _ _ _; refine Ai ?_; intro Q1) | (show AW _ _ (.region _ _ false) _ _ _; refine Af ?_; intro O1) | (show AW _ _ (.cond _ _ _) _ _ _; first | refine Al Y ?_ | refine Ak Y ?_ | refine aw_if Y (fun h => ?_) (fun h => ?_)) | (show AW _ _ (.skip) _ _ _; refine Aj ?_; first | show AW _ _ _ _ _ _ | show ∃ x', _ < _ ∧ _) | (show AW _ _ (.block _ _) _ _ _; refine Ay ?_; intro Q1) | (show AW _ _ (.exit _) _ _ _; refine aw_exit ?_; first | show AW _ _ _ _ _ _ | show ∃ x', _ < _ ∧ _) | (show AW _ _ (.ret) _ _ _; refine As ?_; try dsimp only [Au, Ab, At, Ad]) | fail)
    refine Ac rfl (r_stB 0 (l := l) (0xe5 : UInt8) hG rfl rfl rfl bT_cells bT_sc rfl rfl (by omega) ?_)
    repeat' (first
    | ((show AL _ _ _ _ _ _ _ _; refine Ac Y ?_); (first
      | refine Ar hG Y Y ?_
      | refine r_asg hG Y Y ?_
      | (show AOp _ _ ⟨_, .call ⟨.builtin .len, _, _⟩, _, _, _, _⟩ _ _ _; first | refine r_lenm hG Y Y Y Y ?_ | refine r_len hG Y Y Y Y Y ?_)
      | (show AOp _ _ ⟨_, .binOp .add _ _ _ _, _, _, _, _⟩ _ _ _; first | refine r_arN hG Y Y Y Y Y (by omega) ?_ | refine r_arN (m := 1) hG Y Y Y Y Y (by omega) ?_ | refine Ag hG Y Y Y Y Y (by omega) ?_)
      | (show AOp _ _ ⟨_, .binOp _ _ _ _ _, _, _, _, _⟩ _ _ _; first | refine Az hG Y Y Y Y Y (by omega) ?_ | refine Ax hG Y Y Y Y Y (by omega) ?_ | (refine r_cmp hG Y Y Y Y Y (fun h => ?_) (fun h => ?_)))
      | (show AOp _ _ ⟨_, .indexAddr _ _ _, _, _, _, _⟩ _ _ _; first | refine r_idxL hG Y Y Y Y Y Y Y (by omega) ?_ | refine r_idxn hG Y Y Y Y Y Y Y (by omega) ?_ | refine r_idxm hG Y Y Y Y Y Y Y (by omega) ?_ | refine r_idx hG Y Y ?_)
      | (show AOp _ _ ⟨_, .slice _ _ _ _ _, _, _, _, _⟩ _ _ _; first | refine r_slC hG Y Y Y Y Y Y Y (by first | omega | (simp; omega)) ?_ | refine r_sl_hin hG Y Y Y Y Y Y Y (by omega) ?_ | refine r_sl_hi hG Y Y Y Y Y Y Y (by omega) ?_ | refine op_cut0 hG Y Y Y Y Y Y Y Y Y Y ?_ | refine r_sl hG Y Y ?_)
      | (show AOp _ _ ⟨_, .store _ _ _, _, _, _, _⟩ _ _ _; first | refine r_stL (α := UInt16) 0 hG Y Y Y hT_cells hT_sc Y Y (by first | omega | (simp only [Array.size_setIfInBounds]; omega)) ?_ | refine r_stL (α := UInt16) 1 hG Y Y Y hT_cells hT_sc Y Y (by first | omega | (simp only [Array.size_setIfInBounds]; omega)) ?_ | refine r_st 0 hG Y Y Y Y Y Y Y ?_)
      | refine r_q hG Y Y Y ?_))
    | (show AL _ _ _ _ _ _ _ _; first | refine al_s Y Y Y ?_ | (refine Aq ?_; first | show AW _ _ _ _ _ _ | show ∃ x', _ < _ ∧ _)) | (show AW _ _ (.seq _ _) _ _ _; refine Ai ?_; intro Q1) | (show AW _ _ (.region _ _ false) _ _ _; refine Af ?_; intro O1) | (show AW _ _ (.cond _ _ _) _ _ _; first | refine Al Y ?_ | refine Ak Y ?_ | refine aw_if Y (fun h => ?_) (fun h => ?_)) | (show AW _ _ (.skip) _ _ _; refine Aj ?_; first | show AW _ _ _ _ _ _ | show ∃ x', _ < _ ∧ _) | (show AW _ _ (.block _ _) _ _ _; refine Ay ?_; intro Q1) | (show AW _ _ (.exit _) _ _ _; refine aw_exit ?_; first | show AW _ _ _ _ _ _ | show ∃ x', _ < _ ∧ _) | (show AW _ _ (.ret) _ _ _; refine As ?_; try dsimp only [Au, Ab, At, Ad]) | fail)
    exact ⟨⟨q + 1, l.set q 0xe5, by omega, by omega, by
      rw [hl, show b.length + 3 - q = (b.length + 3 - (q + 1)) + 1 by omega, List.replicate_succ, show q + 1 - b.length = (q - b.length) + 1 by omega, List.replicate_succ']
      rw [List.set_append_right _ _ (by simp; omega)]
      simp [show q - (b.length + (q - b.length)) = 0 by omega]⟩, by dsimp only; omega, (by repeat (first | exact .nil _ | refine .cons rfl ?_)), .refl _⟩
  · obtain rfl : q = b.length + 3 := by omega
    repeat' (first
    | ((show AL _ _ _ _ _ _ _ _; refine Ac Y ?_); (first
      | refine Ar hG Y Y ?_
      | refine r_asg hG Y Y ?_
      | (show AOp _ _ ⟨_, .call ⟨.builtin .len, _, _⟩, _, _, _, _⟩ _ _ _; first | refine r_lenm hG Y Y Y Y ?_ | refine r_len hG Y Y Y Y Y ?_)
      | (show AOp _ _ ⟨_, .binOp .add _ _ _ _, _, _, _, _⟩ _ _ _; first | refine r_arN hG Y Y Y Y Y (by omega) ?_ | refine r_arN (m := 1) hG Y Y Y Y Y (by omega) ?_ | refine Ag hG Y Y Y Y Y (by omega) ?_)
      | (show AOp _ _ ⟨_, .binOp _ _ _ _ _, _, _, _, _⟩ _ _ _; first | refine Az hG Y Y Y Y Y (by omega) ?_ | refine Ax hG Y Y Y Y Y (by omega) ?_ | (refine r_cmp hG Y Y Y Y Y (fun h => ?_) (fun h => ?_)))
      | (show AOp _ _ ⟨_, .indexAddr _ _ _, _, _, _, _⟩ _ _ _; first | refine r_idxL hG Y Y Y Y Y Y Y (by omega) ?_ | refine r_idxn hG Y Y Y Y Y Y Y (by omega) ?_ | refine r_idxm hG Y Y Y Y Y Y Y (by omega) ?_ | refine r_idx hG Y Y ?_)
      | (show AOp _ _ ⟨_, .slice _ _ _ _ _, _, _, _, _⟩ _ _ _; first | refine r_slC hG Y Y Y Y Y Y Y (by first | omega | (simp; omega)) ?_ | refine r_sl_hin hG Y Y Y Y Y Y Y (by omega) ?_ | refine r_sl_hi hG Y Y Y Y Y Y Y (by omega) ?_ | refine op_cut0 hG Y Y Y Y Y Y Y Y Y Y ?_ | refine r_sl hG Y Y ?_)
      | (show AOp _ _ ⟨_, .store _ _ _, _, _, _, _⟩ _ _ _; first | refine r_stL (α := UInt16) 0 hG Y Y Y hT_cells hT_sc Y Y (by first | omega | (simp only [Array.size_setIfInBounds]; omega)) ?_ | refine r_stL (α := UInt16) 1 hG Y Y Y hT_cells hT_sc Y Y (by first | omega | (simp only [Array.size_setIfInBounds]; omega)) ?_ | refine r_st 0 hG Y Y Y Y Y Y Y ?_)
      | refine r_q hG Y Y Y ?_))
    | (show AL _ _ _ _ _ _ _ _; first | refine al_s Y Y Y ?_ | (refine Aq ?_; first | show AW _ _ _ _ _ _ | show ∃ x', _ < _ ∧ _)) | (show AW _ _ (.seq _ _) _ _ _; refine Ai ?_; intro Q1) | (show AW _ _ (.region _ _ false) _ _ _; refine Af ?_; intro O1) | (show AW _ _ (.cond _ _ _) _ _ _; first | refine Al Y ?_ | refine Ak Y ?_ | refine aw_if Y (fun h => ?_) (fun h => ?_)) | (show AW _ _ (.skip) _ _ _; refine Aj ?_; first | show AW _ _ _ _ _ _ | show ∃ x', _ < _ ∧ _) | (show AW _ _ (.block _ _) _ _ _; refine Ay ?_; intro Q1) | (show AW _ _ (.exit _) _ _ _; refine aw_exit ?_; first | show AW _ _ _ _ _ _ | show ∃ x', _ < _ ∧ _) | (show AW _ _ (.ret) _ _ _; refine As ?_; try dsimp only [Au, Ab, At, Ad]) | fail)
    have e1 : l = twL b := by rw [hl, Nat.sub_self, show b.length + 3 - b.length = 3 by omega]; simp [twL]
    rw [e1]
    exact ret_onL (Am rfl A0) (.refl _) (.refl _) (.refl _) rfl ⟨i, rfl, rfl⟩
theorem twL_take (b : List UInt8) : (twL b).take b.length = b := by simp [twL]
structure KeX (b : List UInt8) where
  i : Nat
  hi : i ≤ b.length + 3
  h0 : b.length ≤ i
set_option maxHeartbeats 1000000 in
theorem law_Kept {b : List UInt8} (hb : b.length ≤ 4294967000) (i : Nat) : OnL Try.prog 13 [.aref 1 i 0 b.length (some (b.length + 3)), sT b] [(i, .cells ((twL b).map bT))] (fun u L => u = .bool true ∧ L = [(i, .cells ((twL b).map bT))]) := by
  have hl : (twL b).length = b.length + 3 := by simp [twL]
  intro off
  refine acalls_mk (N := 38) (rs := [.tmp 4]) hG Try.func13 rfl rfl rfl rfl rfl ?_
  repeat' (first
    | ((show AL _ _ _ _ _ _ _ _; refine Ac Y ?_); (first
      | refine Ar hG Y Y ?_
      | refine r_asg hG Y Y ?_
      | (show AOp _ _ ⟨_, .call ⟨.builtin .len, _, _⟩, _, _, _, _⟩ _ _ _; first | refine r_lenm hG Y Y Y Y ?_ | refine r_len hG Y Y Y Y Y ?_)
      | (show AOp _ _ ⟨_, .binOp .add _ _ _ _, _, _, _, _⟩ _ _ _; first | refine r_arN hG Y Y Y Y Y (by omega) ?_ | refine r_arN (m := 1) hG Y Y Y Y Y (by omega) ?_ | refine Ag hG Y Y Y Y Y (by omega) ?_)
      | (show AOp _ _ ⟨_, .binOp _ _ _ _ _, _, _, _, _⟩ _ _ _; first | refine Az hG Y Y Y Y Y (by omega) ?_ | refine Ax hG Y Y Y Y Y (by omega) ?_ | refine r_strT hG Y Y Y Y (by first | rfl | assumption) ?_ | refine r_strnF hG Y Y Y Y (by first | rfl | assumption) ?_ | refine r_strF hG Y Y Y Y (by assumption) ?_ | refine r_strnT hG Y Y Y Y (by assumption) ?_ | (refine r_cmp hG Y Y Y Y Y (fun h => ?_) (fun h => ?_)) | (first | refine r_str hG Y Y Y Y (fun h => ?_) (fun h => ?_) | refine r_strn hG Y Y Y Y (fun h => ?_) (fun h => ?_)))
      | (show AOp _ _ ⟨_, .load _ _, _, _, _, _⟩ _ _ _; first | refine r_ldB (f := bT) 0 hG Y Y Y Y (by first | omega | (simp; omega)) Y ?_ | refine r_ldB (f := bT) 1 hG Y Y Y Y (by first | omega | (simp; omega)) Y ?_ | refine r_ldB (f := bT) 2 hG Y Y Y Y (by first | omega | (simp; omega)) Y ?_ | refine r_ldL (α := UInt16) 0 hG Y Y Y Y (by omega) Y ?_ | refine r_ldL (α := UInt16) 1 hG Y Y Y Y (by omega) Y ?_ | refine r_ldro hG Y Y Y ?_ | refine r_ld 0 hG Y Y Y Y ?_)
      | (show AOp _ _ ⟨_, .indexAddr _ _ _, _, _, _, _⟩ _ _ _; first | refine r_idxL hG Y Y Y Y Y Y Y (by omega) ?_ | refine r_idxn hG Y Y Y Y Y Y Y (by omega) ?_ | refine r_idxm hG Y Y Y Y Y Y Y (by omega) ?_ | refine r_idx hG Y Y ?_)
      | (show AOp _ _ ⟨_, .convert _ _ _, _, _, _, _⟩ _ _ _; fail)
      | (show AOp _ _ ⟨_, .slice _ _ _ _ _, _, _, _, _⟩ _ _ _; first | refine r_slC hG Y Y Y Y Y Y Y (by first | omega | (simp; omega)) ?_ | refine r_sl_hin hG Y Y Y Y Y Y Y (by omega) ?_ | refine r_sl_hi hG Y Y Y Y Y Y Y (by omega) ?_ | refine op_cut0 hG Y Y Y Y Y Y Y Y Y Y ?_ | refine r_sl hG Y Y ?_)
      | refine r_pick hG Y Y Y ?_
      | refine r_q hG Y Y Y ?_))
    | (show AL _ _ _ _ _ _ _ _; first | refine al_s Y Y Y ?_ | (refine Aq ?_; first | show AW _ _ _ _ _ _ | show ∃ x', _ < _ ∧ _)) | (show AW _ _ (.seq _ _) _ _ _; refine Ai ?_; intro Q1) | (show AW _ _ (.region _ _ false) _ _ _; refine Af ?_; intro O1) | (show AW _ _ (.cond _ _ _) _ _ _; first | refine Al Y ?_ | refine Ak Y ?_ | refine aw_if Y (fun h => ?_) (fun h => ?_)) | (show AW _ _ (.skip) _ _ _; refine Aj ?_; first | show AW _ _ _ _ _ _ | show ∃ x', _ < _ ∧ _) | (show AW _ _ (.block _ _) _ _ _; refine Ay ?_; intro Q1) | (show AW _ _ (.exit _) _ _ _; refine aw_exit ?_; first | show AW _ _ _ _ _ _ | show ∃ x', _ < _ ∧ _) | (show AW _ _ (.ret) _ _ _; refine As ?_; try dsimp only [Au, Ab, At, Ad]) | fail)
  refine Ac rfl (r_tostrL 0 (l := twL b) hG rfl rfl rfl rfl rfl rfl rfl rfl (by omega) rfl ?_)
  rw [twL_take]
  have h3 : ¬ ((b.length + 3 : Nat) : Int) < (b.length : Int) + 3 := by omega
  repeat' (first
    | ((show AL _ _ _ _ _ _ _ _; refine Ac Y ?_); (first
      | refine Ar hG Y Y ?_
      | refine r_asg hG Y Y ?_
      | (show AOp _ _ ⟨_, .call ⟨.builtin .len, _, _⟩, _, _, _, _⟩ _ _ _; first | refine r_lenm hG Y Y Y Y ?_ | refine r_len hG Y Y Y Y Y ?_)
      | (show AOp _ _ ⟨_, .binOp .add _ _ _ _, _, _, _, _⟩ _ _ _; first | refine r_arN hG Y Y Y Y Y (by omega) ?_ | refine r_arN (m := 1) hG Y Y Y Y Y (by omega) ?_ | refine Ag hG Y Y Y Y Y (by omega) ?_)
      | (show AOp _ _ ⟨_, .binOp _ _ _ _ _, _, _, _, _⟩ _ _ _; first | refine Az hG Y Y Y Y Y (by omega) ?_ | refine Ax hG Y Y Y Y Y (by omega) ?_ | refine r_strT hG Y Y Y Y (by first | rfl | assumption) ?_ | refine r_strnF hG Y Y Y Y (by first | rfl | assumption) ?_ | refine r_strF hG Y Y Y Y (by assumption) ?_ | refine r_strnT hG Y Y Y Y (by assumption) ?_ | (refine r_cmp hG Y Y Y Y Y (fun h => ?_) (fun h => ?_)) | (first | refine r_str hG Y Y Y Y (fun h => ?_) (fun h => ?_) | refine r_strn hG Y Y Y Y (fun h => ?_) (fun h => ?_)))
      | (show AOp _ _ ⟨_, .load _ _, _, _, _, _⟩ _ _ _; first | refine r_ldB (f := bT) 0 hG Y Y Y Y (by first | omega | (simp; omega)) Y ?_ | refine r_ldB (f := bT) 1 hG Y Y Y Y (by first | omega | (simp; omega)) Y ?_ | refine r_ldB (f := bT) 2 hG Y Y Y Y (by first | omega | (simp; omega)) Y ?_ | refine r_ldL (α := UInt16) 0 hG Y Y Y Y (by omega) Y ?_ | refine r_ldL (α := UInt16) 1 hG Y Y Y Y (by omega) Y ?_ | refine r_ldro hG Y Y Y ?_ | refine r_ld 0 hG Y Y Y Y ?_)
      | (show AOp _ _ ⟨_, .indexAddr _ _ _, _, _, _, _⟩ _ _ _; first | refine r_idxL hG Y Y Y Y Y Y Y (by omega) ?_ | refine r_idxn hG Y Y Y Y Y Y Y (by omega) ?_ | refine r_idxm hG Y Y Y Y Y Y Y (by omega) ?_ | refine r_idx hG Y Y ?_)
      | (show AOp _ _ ⟨_, .convert _ _ _, _, _, _, _⟩ _ _ _; first | refine r_tostr hG Y Y Y Y Y Y Y Y (by first | exact Ah _ _ | exact Ap _ | rfl) ?_)
      | (show AOp _ _ ⟨_, .slice _ _ _ _ _, _, _, _, _⟩ _ _ _; first | refine r_slC hG Y Y Y Y Y Y Y (by first | omega | (simp; omega)) ?_ | refine r_sl_hin hG Y Y Y Y Y Y Y (by omega) ?_ | refine r_sl_hi hG Y Y Y Y Y Y Y (by omega) ?_ | refine op_cut0 hG Y Y Y Y Y Y Y Y Y Y ?_ | refine r_sl hG Y Y ?_)
      | refine r_pick hG Y Y Y ?_
      | refine r_q hG Y Y Y ?_))
    | (show AL _ _ _ _ _ _ _ _; first | refine al_s Y Y Y ?_ | (refine Aq ?_; first | show AW _ _ _ _ _ _ | show ∃ x', _ < _ ∧ _)) | (show AW _ _ (.seq _ _) _ _ _; refine Ai ?_; intro Q1) | (show AW _ _ (.region _ _ false) _ _ _; refine Af ?_; intro O1) | (show AW _ _ (.cond _ _ _) _ _ _; first | refine Al Y ?_ | refine Ak Y ?_ | refine aw_if Y (fun h => ?_) (fun h => ?_)) | (show AW _ _ (.skip) _ _ _; refine Aj ?_; first | show AW _ _ _ _ _ _ | show ∃ x', _ < _ ∧ _) | (show AW _ _ (.block _ _) _ _ _; refine Ay ?_; intro Q1) | (show AW _ _ (.exit _) _ _ _; refine aw_exit ?_; first | show AW _ _ _ _ _ _ | show ∃ x', _ < _ ∧ _) | (show AW _ _ (.ret) _ _ _; refine As ?_; try dsimp only [Au, Ab, At, Ad]) | fail)
  refine aw_loop (X := KeX b) (fun x => [(1, sT b), (5, .aref 1 i 0 (b.length + 3) (some (b.length + 3))), (6, .int .i64 (x.i : Int))]) (fun x => ⟨[(i, .cells ((twL b).map bT))], [], off, none⟩) (fun x => b.length + 3 - x.i) ⟨b.length, by omega, Nat.le_refl _⟩ (by repeat (first | exact .nil _ | refine .cons rfl ?_)) (.refl _) ?_
  rintro ⟨q, hi, h0⟩
  dsimp only
  by_cases hq : q < b.length + 3
  · have hg : (((twL b).getD q default).toNat : Int) = 229 := by
      have : (twL b).getD q default = 0xe5 := by
        unfold twL
        simp only [List.getD]
        rw [List.getElem?_append_right h0]
        rcases (show q - b.length = 0 ∨ q - b.length = 1 ∨ q - b.length = 2 by omega) with e | e | e <;> rw [e] <;> rfl
      rw [this]; rfl
    repeat' (first
    | ((show AL _ _ _ _ _ _ _ _; refine Ac Y ?_); (first
      | refine Ar hG Y Y ?_
      | refine r_asg hG Y Y ?_
      | (show AOp _ _ ⟨_, .call ⟨.builtin .len, _, _⟩, _, _, _, _⟩ _ _ _; first | refine r_lenm hG Y Y Y Y ?_ | refine r_len hG Y Y Y Y Y ?_)
      | (show AOp _ _ ⟨_, .binOp .add _ _ _ _, _, _, _, _⟩ _ _ _; first | refine r_arN hG Y Y Y Y Y (by omega) ?_ | refine r_arN (m := 1) hG Y Y Y Y Y (by omega) ?_ | refine Ag hG Y Y Y Y Y (by omega) ?_)
      | (show AOp _ _ ⟨_, .binOp _ _ _ _ _, _, _, _, _⟩ _ _ _; first | refine Az hG Y Y Y Y Y (by omega) ?_ | refine Ax hG Y Y Y Y Y (by omega) ?_ | refine r_strT hG Y Y Y Y (by first | rfl | assumption) ?_ | refine r_strnF hG Y Y Y Y (by first | rfl | assumption) ?_ | refine r_strF hG Y Y Y Y (by assumption) ?_ | refine r_strnT hG Y Y Y Y (by assumption) ?_ | (refine r_cmp hG Y Y Y Y Y (fun h => ?_) (fun h => ?_)) | (first | refine r_str hG Y Y Y Y (fun h => ?_) (fun h => ?_) | refine r_strn hG Y Y Y Y (fun h => ?_) (fun h => ?_)))
      | (show AOp _ _ ⟨_, .load _ _, _, _, _, _⟩ _ _ _; first | refine r_ldB (f := bT) 0 hG Y Y Y Y (by first | omega | (simp; omega)) Y ?_ | refine r_ldB (f := bT) 1 hG Y Y Y Y (by first | omega | (simp; omega)) Y ?_ | refine r_ldB (f := bT) 2 hG Y Y Y Y (by first | omega | (simp; omega)) Y ?_ | refine r_ldL (α := UInt16) 0 hG Y Y Y Y (by omega) Y ?_ | refine r_ldL (α := UInt16) 1 hG Y Y Y Y (by omega) Y ?_ | refine r_ldro hG Y Y Y ?_ | refine r_ld 0 hG Y Y Y Y ?_)
      | (show AOp _ _ ⟨_, .indexAddr _ _ _, _, _, _, _⟩ _ _ _; first | refine r_idxL hG Y Y Y Y Y Y Y (by omega) ?_ | refine r_idxn hG Y Y Y Y Y Y Y (by omega) ?_ | refine r_idxm hG Y Y Y Y Y Y Y (by omega) ?_ | refine r_idx hG Y Y ?_)
      | (show AOp _ _ ⟨_, .convert _ _ _, _, _, _, _⟩ _ _ _; first | refine r_tostr hG Y Y Y Y Y Y Y Y (by first | exact Ah _ _ | exact Ap _ | rfl) ?_)
      | (show AOp _ _ ⟨_, .slice _ _ _ _ _, _, _, _, _⟩ _ _ _; first | refine r_slC hG Y Y Y Y Y Y Y (by first | omega | (simp; omega)) ?_ | refine r_sl_hin hG Y Y Y Y Y Y Y (by omega) ?_ | refine r_sl_hi hG Y Y Y Y Y Y Y (by omega) ?_ | refine op_cut0 hG Y Y Y Y Y Y Y Y Y Y ?_ | refine r_sl hG Y Y ?_)
      | refine r_pick hG Y Y Y ?_
      | refine r_q hG Y Y Y ?_))
    | (show AL _ _ _ _ _ _ _ _; first | refine al_s Y Y Y ?_ | (refine Aq ?_; first | show AW _ _ _ _ _ _ | show ∃ x', _ < _ ∧ _)) | (show AW _ _ (.seq _ _) _ _ _; refine Ai ?_; intro Q1) | (show AW _ _ (.region _ _ false) _ _ _; refine Af ?_; intro O1) | (show AW _ _ (.cond _ _ _) _ _ _; first | refine Al Y ?_ | refine Ak Y ?_ | refine aw_if Y (fun h => ?_) (fun h => ?_)) | (show AW _ _ (.skip) _ _ _; refine Aj ?_; first | show AW _ _ _ _ _ _ | show ∃ x', _ < _ ∧ _) | (show AW _ _ (.block _ _) _ _ _; refine Ay ?_; intro Q1) | (show AW _ _ (.exit _) _ _ _; refine aw_exit ?_; first | show AW _ _ _ _ _ _ | show ∃ x', _ < _ ∧ _) | (show AW _ _ (.ret) _ _ _; refine As ?_; try dsimp only [Au, Ab, At, Ad]) | fail)
    exact ⟨⟨q + 1, by omega, by omega⟩, by dsimp only; omega, (by repeat (first | exact .nil _ | refine .cons rfl ?_)), .refl _⟩
  · repeat' (first
    | ((show AL _ _ _ _ _ _ _ _; refine Ac Y ?_); (first
      | refine Ar hG Y Y ?_
      | refine r_asg hG Y Y ?_
      | (show AOp _ _ ⟨_, .call ⟨.builtin .len, _, _⟩, _, _, _, _⟩ _ _ _; first | refine r_lenm hG Y Y Y Y ?_ | refine r_len hG Y Y Y Y Y ?_)
      | (show AOp _ _ ⟨_, .binOp .add _ _ _ _, _, _, _, _⟩ _ _ _; first | refine r_arN hG Y Y Y Y Y (by omega) ?_ | refine r_arN (m := 1) hG Y Y Y Y Y (by omega) ?_ | refine Ag hG Y Y Y Y Y (by omega) ?_)
      | (show AOp _ _ ⟨_, .binOp _ _ _ _ _, _, _, _, _⟩ _ _ _; first | refine Az hG Y Y Y Y Y (by omega) ?_ | refine Ax hG Y Y Y Y Y (by omega) ?_ | refine r_strT hG Y Y Y Y (by first | rfl | assumption) ?_ | refine r_strnF hG Y Y Y Y (by first | rfl | assumption) ?_ | refine r_strF hG Y Y Y Y (by assumption) ?_ | refine r_strnT hG Y Y Y Y (by assumption) ?_ | (refine r_cmp hG Y Y Y Y Y (fun h => ?_) (fun h => ?_)) | (first | refine r_str hG Y Y Y Y (fun h => ?_) (fun h => ?_) | refine r_strn hG Y Y Y Y (fun h => ?_) (fun h => ?_)))
      | (show AOp _ _ ⟨_, .load _ _, _, _, _, _⟩ _ _ _; first | refine r_ldB (f := bT) 0 hG Y Y Y Y (by first | omega | (simp; omega)) Y ?_ | refine r_ldB (f := bT) 1 hG Y Y Y Y (by first | omega | (simp; omega)) Y ?_ | refine r_ldB (f := bT) 2 hG Y Y Y Y (by first | omega | (simp; omega)) Y ?_ | refine r_ldL (α := UInt16) 0 hG Y Y Y Y (by omega) Y ?_ | refine r_ldL (α := UInt16) 1 hG Y Y Y Y (by omega) Y ?_ | refine r_ldro hG Y Y Y ?_ | refine r_ld 0 hG Y Y Y Y ?_)
      | (show AOp _ _ ⟨_, .indexAddr _ _ _, _, _, _, _⟩ _ _ _; first | refine r_idxL hG Y Y Y Y Y Y Y (by omega) ?_ | refine r_idxn hG Y Y Y Y Y Y Y (by omega) ?_ | refine r_idxm hG Y Y Y Y Y Y Y (by omega) ?_ | refine r_idx hG Y Y ?_)
      | (show AOp _ _ ⟨_, .convert _ _ _, _, _, _, _⟩ _ _ _; first | refine r_tostr hG Y Y Y Y Y Y Y Y (by first | exact Ah _ _ | exact Ap _ | rfl) ?_)
      | (show AOp _ _ ⟨_, .slice _ _ _ _ _, _, _, _, _⟩ _ _ _; first | refine r_slC hG Y Y Y Y Y Y Y (by first | omega | (simp; omega)) ?_ | refine r_sl_hin hG Y Y Y Y Y Y Y (by omega) ?_ | refine r_sl_hi hG Y Y Y Y Y Y Y (by omega) ?_ | refine op_cut0 hG Y Y Y Y Y Y Y Y Y Y ?_ | refine r_sl hG Y Y ?_)
      | refine r_pick hG Y Y Y ?_
      | refine r_q hG Y Y Y ?_))
    | (show AL _ _ _ _ _ _ _ _; first | refine al_s Y Y Y ?_ | (refine Aq ?_; first | show AW _ _ _ _ _ _ | show ∃ x', _ < _ ∧ _)) | (show AW _ _ (.seq _ _) _ _ _; refine Ai ?_; intro Q1) | (show AW _ _ (.region _ _ false) _ _ _; refine Af ?_; intro O1) | (show AW _ _ (.cond _ _ _) _ _ _; first | refine Al Y ?_ | refine Ak Y ?_ | refine aw_if Y (fun h => ?_) (fun h => ?_)) | (show AW _ _ (.skip) _ _ _; refine Aj ?_; first | show AW _ _ _ _ _ _ | show ∃ x', _ < _ ∧ _) | (show AW _ _ (.block _ _) _ _ _; refine Ay ?_; intro Q1) | (show AW _ _ (.exit _) _ _ _; refine aw_exit ?_; first | show AW _ _ _ _ _ _ | show ∃ x', _ < _ ∧ _) | (show AW _ _ (.ret) _ _ _; refine As ?_; try dsimp only [Au, Ab, At, Ad]) | fail)
    exact ret_onL (Am rfl A0) (.refl _) (.refl _) (.refl _) rfl ⟨rfl, rfl⟩
theorem clone_l {l : List UInt8} {n : Nat} {cap : Option Nat} (hn : n ≤ l.length) (hl : n ≤ 4294967296) (i : Nat) : OwnsL Try.prog 44 [.aref 1 i 0 n cap] [(i, .cells (l.map bT))] 1 ((l.take n).map bT) := by
  intro off
  refine acalls_mk (N := 8) (rs := [.tmp 2]) hG Try.func44 rfl rfl rfl rfl rfl ?_
  repeat' (first
    | ((show AL _ _ _ _ _ _ _ _; refine Ac Y ?_); (first
      | refine Ar hG Y Y ?_
      | refine r_asg hG Y Y ?_
      | (show AOp _ _ ⟨_, .binOp _ _ _ _ _, _, _, _, _⟩ _ _ _; first | refine r_bin' hG Y Y Y ?_)
      | (show AOp _ _ ⟨_, .buildSlice _ _ _, _, _, _, _⟩ _ _ _; first | refine r_mk (sz := 1) hG Y Y Y Y Y Y Y ?_)
      | (show AOp _ _ ⟨_, .call ⟨.builtin .append, _, _⟩, _, _, _, _⟩ _ _ _; first | refine r_app0m (sz := 1) (xs := []) hG Y Y Y Y Y Y Y ⟨_, Y⟩ Y Y Y Y Y Y Y (by first | omega | (simp; omega)) (fun k => ?_) | refine r_appm 0 hG Y Y Y Y Y Y Y ⟨_, Y⟩ Y Y Y Y Y (by first | omega | (simp only [List.length_append, List.length_cons, List.length_nil]; omega)) (fun k => ?_) | fail)
      | refine r_q hG Y Y Y ?_))
    | (show AL _ _ _ _ _ _ _ _; first | refine al_s Y Y Y ?_ | (refine Aq ?_; first | show AW _ _ _ _ _ _ | show ∃ x', _ < _ ∧ _)) | (show AW _ _ (.seq _ _) _ _ _; refine Ai ?_; intro Q1) | (show AW _ _ (.region _ _ false) _ _ _; refine Af ?_; intro O1) | (show AW _ _ (.cond _ _ _) _ _ _; first | refine Al Y ?_ | refine Ak Y ?_ | refine aw_if Y (fun h => ?_) (fun h => ?_)) | (show AW _ _ (.skip) _ _ _; refine Aj ?_; first | show AW _ _ _ _ _ _ | show ∃ x', _ < _ ∧ _) | (show AW _ _ (.ret) _ _ _; refine As ?_; try dsimp only [Au, Ab, At, Ad]) | fail)
  refine Ac rfl (r_nilA hG rfl rfl rfl ?_)
  repeat' (first
    | ((show AL _ _ _ _ _ _ _ _; refine Ac Y ?_); (first
      | refine Ar hG Y Y ?_
      | refine r_asg hG Y Y ?_
      | (show AOp _ _ ⟨_, .binOp _ _ _ _ _, _, _, _, _⟩ _ _ _; first | refine r_bin' hG Y Y Y ?_)
      | (show AOp _ _ ⟨_, .buildSlice _ _ _, _, _, _, _⟩ _ _ _; first | refine r_mk (sz := 1) hG Y Y Y Y Y Y Y ?_)
      | (show AOp _ _ ⟨_, .call ⟨.builtin .append, _, _⟩, _, _, _, _⟩ _ _ _; fail)
      | refine r_q hG Y Y Y ?_))
    | (show AL _ _ _ _ _ _ _ _; first | refine al_s Y Y Y ?_ | (refine Aq ?_; first | show AW _ _ _ _ _ _ | show ∃ x', _ < _ ∧ _)) | (show AW _ _ (.seq _ _) _ _ _; refine Ai ?_; intro Q1) | (show AW _ _ (.region _ _ false) _ _ _; refine Af ?_; intro O1) | (show AW _ _ (.cond _ _ _) _ _ _; first | refine Al Y ?_ | refine Ak Y ?_ | refine aw_if Y (fun h => ?_) (fun h => ?_)) | (show AW _ _ (.skip) _ _ _; refine Aj ?_; first | show AW _ _ _ _ _ _ | show ∃ x', _ < _ ∧ _) | (show AW _ _ (.ret) _ _ _; refine As ?_; try dsimp only [Au, Ab, At, Ad]) | fail)
  refine Ac rfl (r_app0L 0 (l := l) hG rfl rfl rfl rfl rfl rfl ⟨_, rfl⟩ rfl rfl hn rfl rfl hl (fun k => ?_))
  repeat' (first
    | ((show AL _ _ _ _ _ _ _ _; refine Ac Y ?_); (first
      | refine Ar hG Y Y ?_
      | refine r_asg hG Y Y ?_
      | (show AOp _ _ ⟨_, .binOp _ _ _ _ _, _, _, _, _⟩ _ _ _; first | refine r_bin' hG Y Y Y ?_)
      | (show AOp _ _ ⟨_, .buildSlice _ _ _, _, _, _, _⟩ _ _ _; first | refine r_mk (sz := 1) hG Y Y Y Y Y Y Y ?_)
      | (show AOp _ _ ⟨_, .call ⟨.builtin .append, _, _⟩, _, _, _, _⟩ _ _ _; first | refine r_app0m (sz := 1) (xs := []) hG Y Y Y Y Y Y Y ⟨_, Y⟩ Y Y Y Y Y Y Y (by first | omega | (simp; omega)) (fun k => ?_) | refine r_appm 0 hG Y Y Y Y Y Y Y ⟨_, Y⟩ Y Y Y Y Y (by first | omega | (simp only [List.length_append, List.length_cons, List.length_nil]; omega)) (fun k => ?_) | fail)
      | refine r_q hG Y Y Y ?_))
    | (show AL _ _ _ _ _ _ _ _; first | refine al_s Y Y Y ?_ | (refine Aq ?_; first | show AW _ _ _ _ _ _ | show ∃ x', _ < _ ∧ _)) | (show AW _ _ (.seq _ _) _ _ _; refine Ai ?_; intro Q1) | (show AW _ _ (.region _ _ false) _ _ _; refine Af ?_; intro O1) | (show AW _ _ (.cond _ _ _) _ _ _; first | refine Al Y ?_ | refine Ak Y ?_ | refine aw_if Y (fun h => ?_) (fun h => ?_)) | (show AW _ _ (.skip) _ _ _; refine Aj ?_; first | show AW _ _ _ _ _ _ | show ∃ x', _ < _ ∧ _) | (show AW _ _ (.ret) _ _ _; refine As ?_; try dsimp only [Au, Ab, At, Ad]) | fail)
  exact ret_ownsL 0 (Am rfl A0) rfl rfl rfl rfl
end Go.Proofs.Ythfgocinlbogeaa
namespace Go.Proofs.Ythfgocinlbogeaa
open Go.Ts
set_option linter.unusedSimpArgs false
set_option linter.unusedVariables false
set_option linter.unnecessarySimpa false
attribute [local irreducible] Go.Ts.AW Go.Ts.AOps Go.Ts.AL Go.Ts.AOp Go.Ts.ACalls Go.Ts.DL Go.Ts.DQ0 Go.Ts.EL
theorem put_l {l b : List UInt8} {m : Nat} {cap : Option Nat} {v n : Int} (hm : m ≤ l.length) (hb : l.take m = b) (hl : m ≤ 4294967000) (hv : 0 ≤ v) (i : Nat) :
    OwnsL Try.prog 12 [.aref 1 i 0 m cap, .int .u64 v, .int .i64 n] [(i, .cells (l.map bT))] 1 ((b ++ putI v n).map bT) := by
  have hbl : b.length ≤ 4294967000 := by rw [← hb, List.length_take]; omega
  have hc := clone_l (cap := cap) hm (by omega) i
  rw [hb] at hc
  intro off
  refine acalls_mk (N := 33) (rs := [.tmp 6]) hG Try.func12 rfl rfl rfl rfl rfl ?_
  repeat' (first
    | ((show AL _ _ _ _ _ _ _ _; refine Ac Y ?_); (first
      | refine Ar hG Y Y ?_
      | refine r_asg hG Y Y ?_
      | (show AOp _ _ ⟨_, .binOp .sub _ _ _ _, _, _, _, _⟩ _ _ _; first | refine Ag hG Y Y Y Y Y (by omega) ?_)
      | (show AOp _ _ ⟨_, .binOp .mul _ _ _ _, _, _, _, _⟩ _ _ _; first | refine Ag hG Y Y Y Y Y (by omega) ?_)
      | (show AOp _ _ ⟨_, .binOp .shr _ _ _ _, _, _, _, _⟩ _ _ _; refine r_shr hG Y Y Y Y (by omega) ?_)
      | (show AOp _ _ ⟨_, .binOp _ _ _ _ _, _, _, _, _⟩ _ _ _; first | refine Az hG Y Y Y Y Y (by omega) ?_ | refine Ax hG Y Y Y Y Y (by omega) ?_ | (refine r_cmp hG Y Y Y Y Y (fun h => ?_) (fun h => ?_)))
      | (show AOp _ _ ⟨_, .convert _ _ _, _, _, _, _⟩ _ _ _; first | refine r_cv_u64 hG Y Y Y Y Y (by omega) ?_ | refine r_cv_u8 hG Y Y Y Y Y (by omega) ?_ | refine r_cvw hG Y Y Y Y Y ?_)
      | refine r_pick hG Y Y Y ?_
      | (show AOp _ _ ⟨_, .buildSlice _ _ _, _, _, _, _⟩ _ _ _; first | refine r_mk (sz := 1) hG Y Y Y Y Y Y Y ?_)
      | (show AOp _ _ ⟨_, .call ⟨.builtin .append, _, _⟩, _, _, _, _⟩ _ _ _; first | refine r_app0m (sz := 1) (xs := []) hG Y Y Y Y Y Y Y ⟨_, Y⟩ Y Y Y Y Y Y Y (by first | omega | (simp; omega)) (fun k => ?_) | refine r_appm 0 hG Y Y Y Y Y Y Y ⟨_, Y⟩ Y Y Y Y Y (by first | omega | (simp only [List.length_append, List.length_cons, List.length_nil]; omega)) (fun k => ?_) | fail)
      | refine r_q hG Y Y Y ?_))
    | (show AL _ _ _ _ _ _ _ _; first | refine al_s Y Y Y ?_ | (refine Aq ?_; first | show AW _ _ _ _ _ _ | show ∃ x', _ < _ ∧ _)) | (show AW _ _ (.seq _ _) _ _ _; refine Ai ?_; intro Q1) | (show AW _ _ (.region _ _ false) _ _ _; refine Af ?_; intro O1) | (show AW _ _ (.cond _ _ _) _ _ _; first | refine Al Y ?_ | refine Ak Y ?_) | (show AW _ _ (.skip) _ _ _; refine Aj ?_; first | show AW _ _ _ _ _ _ | show ∃ x', _ < _ ∧ _) | (show AW _ _ (.goto _) _ _ _; refine aw_goto ?_; try dsimp only [Au, Ab, At, Ad]) | (show AW _ _ (.ret) _ _ _; refine As ?_; try dsimp only [Au, Ab, At, Ad]) | fail)
  refine aw_scope' 0 rfl (X := PutX v n) (fun x => [(1, .int .u64 v), (7, .sl 1 (.tok x.k) ((b ++ x.pre).map bT)), (8, .int .i64 x.i)]) (fun x => ⟨[(i, .cells (l.map bT))], [x.k], off, none⟩) (fun x => x.i) ?_ ?_
  · rintro ⟨hn, q, pre, k, hi, hp⟩
    dsimp only
    repeat' (first
    | ((show AL _ _ _ _ _ _ _ _; refine Ac Y ?_); (first
      | refine Ar hG Y Y ?_
      | refine r_asg hG Y Y ?_
      | (show AOp _ _ ⟨_, .binOp .sub _ _ _ _, _, _, _, _⟩ _ _ _; first | refine Ag hG Y Y Y Y Y (by omega) ?_)
      | (show AOp _ _ ⟨_, .binOp .mul _ _ _ _, _, _, _, _⟩ _ _ _; first | refine Ag hG Y Y Y Y Y (by omega) ?_)
      | (show AOp _ _ ⟨_, .binOp .shr _ _ _ _, _, _, _, _⟩ _ _ _; refine r_shr hG Y Y Y Y (by omega) ?_)
      | (show AOp _ _ ⟨_, .binOp _ _ _ _ _, _, _, _, _⟩ _ _ _; first | refine Az hG Y Y Y Y Y (by omega) ?_ | refine Ax hG Y Y Y Y Y (by omega) ?_ | (refine r_cmp hG Y Y Y Y Y (fun h => ?_) (fun h => ?_)))
      | (show AOp _ _ ⟨_, .convert _ _ _, _, _, _, _⟩ _ _ _; first | refine r_cv_u64 hG Y Y Y Y Y (by omega) ?_ | refine r_cv_u8 hG Y Y Y Y Y (by omega) ?_ | refine r_cvw hG Y Y Y Y Y ?_)
      | refine r_pick hG Y Y Y ?_
      | (show AOp _ _ ⟨_, .buildSlice _ _ _, _, _, _, _⟩ _ _ _; first | refine r_mk (sz := 1) hG Y Y Y Y Y Y Y ?_)
      | (show AOp _ _ ⟨_, .call ⟨.builtin .append, _, _⟩, _, _, _, _⟩ _ _ _; first | refine r_app0m (sz := 1) (xs := []) hG Y Y Y Y Y Y Y ⟨_, Y⟩ Y Y Y Y Y Y Y (by first | omega | (simp; omega)) (fun k => ?_) | refine r_appm 0 hG Y Y Y Y Y Y Y ⟨_, Y⟩ Y Y Y Y Y (by first | omega | (simp only [List.length_append, List.length_cons, List.length_nil]; omega)) (fun k => ?_) | fail)
      | refine r_q hG Y Y Y ?_))
    | (show AL _ _ _ _ _ _ _ _; first | refine al_s Y Y Y ?_ | (refine Aq ?_; first | show AW _ _ _ _ _ _ | show ∃ x', _ < _ ∧ _)) | (show AW _ _ (.seq _ _) _ _ _; refine Ai ?_; intro Q1) | (show AW _ _ (.region _ _ false) _ _ _; refine Af ?_; intro O1) | (show AW _ _ (.cond _ _ _) _ _ _; first | refine Al Y ?_ | refine Ak Y ?_) | (show AW _ _ (.skip) _ _ _; refine Aj ?_; first | show AW _ _ _ _ _ _ | show ∃ x', _ < _ ∧ _) | (show AW _ _ (.goto _) _ _ _; refine aw_goto ?_; try dsimp only [Au, Ab, At, Ad]) | (show AW _ _ (.ret) _ _ _; refine As ?_; try dsimp only [Au, Ab, At, Ad]) | fail)
    · obtain ⟨j, rfl⟩ : ∃ j, q = j + 1 := ⟨q - 1, by omega⟩
      have hpl2 : pre.length + (j + 1) = n.toNat := by have := congrArg List.length hp; simpa [be_length] using this
      have hbyte : T.int IntKind.u8 (IntKind.u8.wrap ((v : Int) / 2 ^ (min (8 * (((j + 1 : Nat) : Int) - 1)).toNat IntKind.u64.bits))) = bT (UInt8.ofNat (v.toNat / 2 ^ (8 * j))) := by
        have : min (8 * (((j + 1 : Nat) : Int) - 1)).toNat IntKind.u64.bits = 8 * j := by simp [IntKind.bits]; omega
        rw [this]
        obtain ⟨v, rfl⟩ := Int.eq_ofNat_of_zero_le hv
        exact bT_of _ _ (by simp)
      refine Ac rfl (r_appm 0 (ys := [UInt8.ofNat (v.toNat / 2 ^ (8 * j))]) hG rfl rfl rfl rfl rfl rfl rfl ⟨_, rfl⟩ rfl rfl rfl rfl (congrArg (fun t => [t]) hbyte) (by simp; omega) (fun k' => ?_))
      repeat' (first
    | ((show AL _ _ _ _ _ _ _ _; refine Ac Y ?_); (first
      | refine Ar hG Y Y ?_
      | refine r_asg hG Y Y ?_
      | (show AOp _ _ ⟨_, .binOp .sub _ _ _ _, _, _, _, _⟩ _ _ _; first | refine Ag hG Y Y Y Y Y (by omega) ?_)
      | (show AOp _ _ ⟨_, .binOp .mul _ _ _ _, _, _, _, _⟩ _ _ _; first | refine Ag hG Y Y Y Y Y (by omega) ?_)
      | (show AOp _ _ ⟨_, .binOp .shr _ _ _ _, _, _, _, _⟩ _ _ _; refine r_shr hG Y Y Y Y (by omega) ?_)
      | (show AOp _ _ ⟨_, .binOp _ _ _ _ _, _, _, _, _⟩ _ _ _; first | refine Az hG Y Y Y Y Y (by omega) ?_ | refine Ax hG Y Y Y Y Y (by omega) ?_ | (refine r_cmp hG Y Y Y Y Y (fun h => ?_) (fun h => ?_)))
      | (show AOp _ _ ⟨_, .convert _ _ _, _, _, _, _⟩ _ _ _; first | refine r_cv_u64 hG Y Y Y Y Y (by omega) ?_ | refine r_cv_u8 hG Y Y Y Y Y (by omega) ?_ | refine r_cvw hG Y Y Y Y Y ?_)
      | refine r_pick hG Y Y Y ?_
      | (show AOp _ _ ⟨_, .buildSlice _ _ _, _, _, _, _⟩ _ _ _; first | refine r_mk (sz := 1) hG Y Y Y Y Y Y Y ?_)
      | (show AOp _ _ ⟨_, .call ⟨.builtin .append, _, _⟩, _, _, _, _⟩ _ _ _; first | refine r_app0m (sz := 1) (xs := []) hG Y Y Y Y Y Y Y ⟨_, Y⟩ Y Y Y Y Y Y Y (by first | omega | (simp; omega)) (fun k => ?_) | refine r_appm 0 hG Y Y Y Y Y Y Y ⟨_, Y⟩ Y Y Y Y Y (by first | omega | (simp only [List.length_append, List.length_cons, List.length_nil]; omega)) (fun k => ?_) | fail)
      | refine r_q hG Y Y Y ?_))
    | (show AL _ _ _ _ _ _ _ _; first | refine al_s Y Y Y ?_ | (refine Aq ?_; first | show AW _ _ _ _ _ _ | show ∃ x', _ < _ ∧ _)) | (show AW _ _ (.seq _ _) _ _ _; refine Ai ?_; intro Q1) | (show AW _ _ (.region _ _ false) _ _ _; refine Af ?_; intro O1) | (show AW _ _ (.cond _ _ _) _ _ _; first | refine Al Y ?_ | refine Ak Y ?_) | (show AW _ _ (.skip) _ _ _; refine Aj ?_; first | show AW _ _ _ _ _ _ | show ∃ x', _ < _ ∧ _) | (show AW _ _ (.goto _) _ _ _; refine aw_goto ?_; try dsimp only [Au, Ab, At, Ad]) | (show AW _ _ (.ret) _ _ _; refine As ?_; try dsimp only [Au, Ab, At, Ad]) | fail)
      refine ⟨rfl, ⟨hn, j, pre ++ [UInt8.ofNat (v.toNat / 2 ^ (8 * j))], k', by omega, by rw [List.append_assoc]; exact hp⟩, by dsimp only; omega, ?_, .refl _⟩
      exact .cons rfl (.consW rfl (.eq (by simp)) (.consW rfl (.int (by simp)) (.nil _)))
    · have : q = 0 := by omega
      subst this
      simp only [be, List.append_nil] at hp
      exact ret_ownsL 0 (Am rfl A0) rfl rfl rfl (by rw [hp, putI, if_pos hn])
  · intro key
    repeat' (first
    | ((show AL _ _ _ _ _ _ _ _; refine Ac Y ?_); (first
      | refine Ar hG Y Y ?_
      | refine r_asg hG Y Y ?_
      | (show AOp _ _ ⟨_, .binOp .sub _ _ _ _, _, _, _, _⟩ _ _ _; first | refine Ag hG Y Y Y Y Y (by omega) ?_)
      | (show AOp _ _ ⟨_, .binOp .mul _ _ _ _, _, _, _, _⟩ _ _ _; first | refine Ag hG Y Y Y Y Y (by omega) ?_)
      | (show AOp _ _ ⟨_, .binOp .shr _ _ _ _, _, _, _, _⟩ _ _ _; refine r_shr hG Y Y Y Y (by omega) ?_)
      | (show AOp _ _ ⟨_, .binOp _ _ _ _ _, _, _, _, _⟩ _ _ _; first | refine Az hG Y Y Y Y Y (by omega) ?_ | refine Ax hG Y Y Y Y Y (by omega) ?_ | (refine r_cmp hG Y Y Y Y Y (fun h => ?_) (fun h => ?_)))
      | (show AOp _ _ ⟨_, .convert _ _ _, _, _, _, _⟩ _ _ _; first | refine r_cv_u64 hG Y Y Y Y Y (by omega) ?_ | refine r_cv_u8 hG Y Y Y Y Y (by omega) ?_ | refine r_cvw hG Y Y Y Y Y ?_)
      | refine r_pick hG Y Y Y ?_
      | (show AOp _ _ ⟨_, .buildSlice _ _ _, _, _, _, _⟩ _ _ _; first | refine r_mk (sz := 1) hG Y Y Y Y Y Y Y ?_)
      | (show AOp _ _ ⟨_, .call ⟨.builtin .append, _, _⟩, _, _, _, _⟩ _ _ _; first | refine r_app0m (sz := 1) (xs := []) hG Y Y Y Y Y Y Y ⟨_, Y⟩ Y Y Y Y Y Y Y (by first | omega | (simp; omega)) (fun k => ?_) | refine r_appm 0 hG Y Y Y Y Y Y Y ⟨_, Y⟩ Y Y Y Y Y (by first | omega | (simp only [List.length_append, List.length_cons, List.length_nil]; omega)) (fun k => ?_) | fail)
      | refine r_q hG Y Y Y ?_))
    | (show AL _ _ _ _ _ _ _ _; first | refine al_s Y Y Y ?_ | (refine Aq ?_; first | show AW _ _ _ _ _ _ | show ∃ x', _ < _ ∧ _)) | (show AW _ _ (.seq _ _) _ _ _; refine Ai ?_; intro Q1) | (show AW _ _ (.region _ _ false) _ _ _; refine Af ?_; intro O1) | (show AW _ _ (.cond _ _ _) _ _ _; first | refine Al Y ?_ | refine Ak Y ?_) | (show AW _ _ (.skip) _ _ _; refine Aj ?_; first | show AW _ _ _ _ _ _ | show ∃ x', _ < _ ∧ _) | (show AW _ _ (.goto _) _ _ _; refine aw_goto ?_; try dsimp only [Au, Ab, At, Ad]) | (show AW _ _ (.ret) _ _ _; refine As ?_; try dsimp only [Au, Ab, At, Ad]) | fail)
    refine Ac rfl (r_ownsL rfl rfl rfl rfl (Lf := []) (.refl _) hc (fun k => ?_))
    repeat' (first
    | ((show AL _ _ _ _ _ _ _ _; refine Ac Y ?_); (first
      | refine Ar hG Y Y ?_
      | refine r_asg hG Y Y ?_
      | (show AOp _ _ ⟨_, .binOp .sub _ _ _ _, _, _, _, _⟩ _ _ _; first | refine Ag hG Y Y Y Y Y (by omega) ?_)
      | (show AOp _ _ ⟨_, .binOp .mul _ _ _ _, _, _, _, _⟩ _ _ _; first | refine Ag hG Y Y Y Y Y (by omega) ?_)
      | (show AOp _ _ ⟨_, .binOp .shr _ _ _ _, _, _, _, _⟩ _ _ _; refine r_shr hG Y Y Y Y (by omega) ?_)
      | (show AOp _ _ ⟨_, .binOp _ _ _ _ _, _, _, _, _⟩ _ _ _; first | refine Az hG Y Y Y Y Y (by omega) ?_ | refine Ax hG Y Y Y Y Y (by omega) ?_ | (refine r_cmp hG Y Y Y Y Y (fun h => ?_) (fun h => ?_)))
      | (show AOp _ _ ⟨_, .convert _ _ _, _, _, _, _⟩ _ _ _; first | refine r_cv_u64 hG Y Y Y Y Y (by omega) ?_ | refine r_cv_u8 hG Y Y Y Y Y (by omega) ?_ | refine r_cvw hG Y Y Y Y Y ?_)
      | refine r_pick hG Y Y Y ?_
      | (show AOp _ _ ⟨_, .buildSlice _ _ _, _, _, _, _⟩ _ _ _; first | refine r_mk (sz := 1) hG Y Y Y Y Y Y Y ?_)
      | (show AOp _ _ ⟨_, .call ⟨.builtin .append, _, _⟩, _, _, _, _⟩ _ _ _; first | refine r_app0m (sz := 1) (xs := []) hG Y Y Y Y Y Y Y ⟨_, Y⟩ Y Y Y Y Y Y Y (by first | omega | (simp; omega)) (fun k => ?_) | refine r_appm 0 hG Y Y Y Y Y Y Y ⟨_, Y⟩ Y Y Y Y Y (by first | omega | (simp only [List.length_append, List.length_cons, List.length_nil]; omega)) (fun k => ?_) | fail)
      | refine r_q hG Y Y Y ?_))
    | (show AL _ _ _ _ _ _ _ _; first | refine al_s Y Y Y ?_ | (refine Aq ?_; first | show AW _ _ _ _ _ _ | show ∃ x', _ < _ ∧ _)) | (show AW _ _ (.seq _ _) _ _ _; refine Ai ?_; intro Q1) | (show AW _ _ (.region _ _ false) _ _ _; refine Af ?_; intro O1) | (show AW _ _ (.cond _ _ _) _ _ _; first | refine Al Y ?_ | refine Ak Y ?_) | (show AW _ _ (.skip) _ _ _; refine Aj ?_; first | show AW _ _ _ _ _ _ | show ∃ x', _ < _ ∧ _) | (show AW _ _ (.goto _) _ _ _; refine aw_goto ?_; try dsimp only [Au, Ab, At, Ad]) | (show AW _ _ (.ret) _ _ _; refine As ?_; try dsimp only [Au, Ab, At, Ad]) | fail)
    · exact ret_ownsL 0 (Am rfl A0) rfl rfl rfl (by rw [putI, if_neg (by omega), List.append_nil])
    · exact ret_ownsL 0 (Am rfl A0) rfl rfl rfl (by rw [putI, if_neg (by omega), List.append_nil])
    · refine aw_label ?_
      show AW _ _ _ _ _ _
      refine aw_forget ?_ (key ⟨by omega, n.toNat, [], k, by omega, rfl⟩)
      exact .cons rfl (.consW rfl (.eq (by simp)) (.consW rfl (.int (by simp; omega)) (.nil _)))
theorem num_begun : Ts.Pure Try.prog 10 [] (.bool true) := by
  have h1 := num_Take_is (x := .sl 1 .full ([1, 2].map bT)) (b := [1, 2]) (n := 2) (v := 258) (e := 0) (Ah _ _) (by decide)
  have h2 := num_TakeBytes (x := .sl 1 .full ([0, 1, 9].map bT)) (b := [0, 1, 9]) (Ah _ _) (by decide)
  have h3 := (num_Put (x := .nilsl) (b := []) (v := 258) (n := 2) rfl (by decide) (by decide)).pure
  have h4 := (num_PutBytes (x := .nilsl) (y := .sl 1 .full ([7].map bT)) (b := []) (s := [7]) rfl (Ah _ _) (by decide) (by decide)).pure
  rw [show takeBE [0, 1, 9] = ([9], 3, 0) by decide] at h2
  rw [show ([] ++ putI 258 2 : List UInt8) = [1, 2] by decide] at h3
  rw [show putBs [] [7] = [0, 1, 7] by decide] at h4
  have n1 : ([9] : List UInt8).length = 1 := rfl
  have n2 : ([0, 1, 7] : List UInt8).length = 3 := rfl
  intro off
  refine acalls_mk (N := 47) (rs := [.tmp 0]) hG Try.func10 rfl rfl rfl rfl rfl ?_
  repeat' (first
    | ((show AL _ _ _ _ _ _ _ _; refine Ac Y ?_); (first
      | refine Ar hG Y Y ?_
      | refine r_asg hG Y Y ?_
      | (show AOp _ _ ⟨_, .call ⟨.builtin .len, _, _⟩, _, _, _, _⟩ _ _ _; first | refine r_lenm hG Y Y Y Y ?_ | refine r_len hG Y Y Y Y Y ?_)
      | (show AOp _ _ ⟨_, .binOp _ _ _ _ _, _, _, _, _⟩ _ _ _; first | refine Az hG Y Y Y Y Y (by omega) ?_ | refine Ax hG Y Y Y Y Y (by omega) ?_ | refine r_strT hG Y Y Y Y (by first | rfl | assumption) ?_ | refine r_strnF hG Y Y Y Y (by first | rfl | assumption) ?_ | refine r_strF hG Y Y Y Y (by assumption) ?_ | refine r_strnT hG Y Y Y Y (by assumption) ?_ | (refine r_cmp hG Y Y Y Y Y (fun h => ?_) (fun h => ?_)) | (first | refine r_str hG Y Y Y Y (fun h => ?_) (fun h => ?_) | refine r_strn hG Y Y Y Y (fun h => ?_) (fun h => ?_)))
      | (show AOp _ _ ⟨_, .convert _ _ _, _, _, _, _⟩ _ _ _; first | refine r_tostr hG Y Y Y Y Y Y Y Y (by first | exact Ah _ _ | exact Ap _ | rfl) ?_)
      | refine r_pick hG Y Y Y ?_
      | (show AOp _ _ ⟨_, .buildSlice _ _ _, _, _, _, _⟩ _ _ _; first | refine r_mk (sz := 1) hG Y Y Y Y Y Y Y ?_)
      | (show AOp _ _ ⟨_, .call ⟨.value _, _, _⟩, _, _, _, _⟩ _ _ _; first | refine r_pure Y Y Y Y Y (by first | (apply h1 <;> (first | assumption | omega | exact Ah _ _ | exact Ap _ | exact A2 _ _ | exact catsT_c _ | rfl | (simp; omega))) | fail) ?_ | refine r_pure Y Y Y Y Y (by first | (apply h2 <;> (first | assumption | omega | exact Ah _ _ | exact Ap _ | exact A2 _ _ | exact catsT_c _ | rfl | (simp; omega))) | fail) ?_ | refine r_pure Y Y Y Y Y (by first | (apply h3 <;> (first | assumption | omega | exact Ah _ _ | exact Ap _ | exact A2 _ _ | exact catsT_c _ | rfl | (simp; omega))) | fail) ?_ | refine r_pure Y Y Y Y Y (by first | (apply h4 <;> (first | assumption | omega | exact Ah _ _ | exact Ap _ | exact A2 _ _ | exact catsT_c _ | rfl | (simp; omega))) | fail) ?_ | fail)
      | refine r_q hG Y Y Y ?_))
    | (show AL _ _ _ _ _ _ _ _; first | refine al_s Y Y Y ?_ | (refine Aq ?_; first | show AW _ _ _ _ _ _ | show ∃ x', _ < _ ∧ _)) | (show AW _ _ (.seq _ _) _ _ _; refine Ai ?_; intro Q1) | (show AW _ _ (.region _ _ false) _ _ _; refine Af ?_; intro O1) | (show AW _ _ (.ret) _ _ _; refine As ?_; try dsimp only [Au, Ab, At, Ad]) | fail)
  all_goals first
    | exact ret_pure (Am rfl A0) (.refl _) rfl
    | exact absurd rfl h
set_option maxHeartbeats 1000000 in
theorem numAll_pure {b : List UInt8} {v n : Int} (hv : 0 ≤ v) (hb : b.length ≤ bigLen) : Ts.Pure Try.prog 3 [sT b, .int .u64 v, .int .i64 n] (.bool true) := by
  have h0 := num_begun
  intro off
  by_cases h40 : 40 < b.length
  · refine acalls_mk (N := 61) (rs := [.tmp 6]) hG Try.func3 rfl rfl rfl rfl rfl ?_
    repeat' (first
    | ((first | (show AL _ _ _ _ _ _ _ _; refine Ac Y ?_) | (show DL _ _ _ _ _ _ _; refine' dl_cons Y Y (fun K kk => ?_) ?_; try (show Go.Ts.T; rotate_left))); (first
      | refine Ar hG Y Y ?_
      | refine r_asg hG Y Y ?_
      | (show AOp _ _ ⟨_, .call ⟨.builtin .len, _, _⟩, _, _, _, _⟩ _ _ _; first | refine r_lenm hG Y Y Y Y ?_ | refine r_len hG Y Y Y Y Y ?_)
      | (show AOp _ _ ⟨_, .binOp _ _ _ _ _, _, _, _, _⟩ _ _ _; first | refine Az hG Y Y Y Y Y (by omega) ?_ | refine Ax hG Y Y Y Y Y (by omega) ?_ | refine r_strT hG Y Y Y Y (by first | rfl | assumption) ?_ | refine r_strnF hG Y Y Y Y (by first | rfl | assumption) ?_ | refine r_strF hG Y Y Y Y (by assumption) ?_ | refine r_strnT hG Y Y Y Y (by assumption) ?_ | ((fail_if_success have := kk); refine r_cmp hG Y Y Y Y Y (fun h => ?_) (fun h => ?_)) | ((fail_if_success have := kk); first | refine r_str hG Y Y Y Y (fun h => ?_) (fun h => ?_) | refine r_strn hG Y Y Y Y (fun h => ?_) (fun h => ?_)))
      | (show AOp _ _ ⟨_, .convert _ _ _, _, _, _, _⟩ _ _ _; first | refine r_tostr hG Y Y Y Y Y Y Y Y (by first | exact Ah _ _ | exact Ap _ | rfl) ?_)
      | refine r_pick hG Y Y Y ?_
      | refine r_not hG Y Y Y ?_
      | (show AOp _ _ ⟨_, .call ⟨.value _, _, _⟩, _, _, _, _⟩ _ _ _; first | refine r_pure Y Y Y Y Y (by first | (apply h0 <;> (first | assumption | omega | exact Ah _ _ | exact Ap _ | exact A2 _ _ | exact catsT_c _ | rfl | (simp; omega))) | fail) ?_ | fail)
      | refine r_q hG Y Y Y ?_); try exact kk)
    | (show AL _ _ _ _ _ _ _ _; first | refine al_s Y Y Y ?_ | (refine Aq ?_; first | show AW _ _ _ _ _ _ | show ∃ x', _ < _ ∧ _)) | (show AW _ _ (.seq _ _) _ _ _; refine Ai ?_; intro Q1) | (show AW _ _ (.region _ _ false) _ _ _; refine Af ?_; intro O1) | (show AW _ _ (.cond _ _ _) _ _ _; first | refine Al Y ?_ | refine Ak Y ?_ | refine aw_if Y (fun h => ?_) (fun h => ?_)) | (show AW _ _ (.skip) _ _ _; refine Aj ?_; first | show AW _ _ _ _ _ _ | show ∃ x', _ < _ ∧ _) | (show AW _ _ (.ret) _ _ _; refine As ?_; try dsimp only [Au, Ab, At, Ad])
    | (show DL _ _ _ _ _ _ _; refine dl_d Y Y (fun K kt kf => r_cmp hG Y Y Y Y Y kt kf) (fun h => ?_) (fun h => ?_)) | (show DL _ _ _ _ _ _ _; refine dl_d Y Y (fun K kt kf => r_str hG Y Y Y Y kt kf) (fun h => ?_) (fun h => ?_)) | (show DL _ _ _ _ _ _ _; refine dl_ne Y Y (fun K kt kf => r_strn hG Y Y Y Y kt kf) (fun h => ?_) (fun h => ?_))
    | (show DL _ _ _ _ _ _ _; refine dl_s Y Y Y ?_) | (show DL _ _ _ _ _ _ _; refine dl_nil ?_; first | show AW _ _ _ _ _ _ | show ∃ x', _ < _ ∧ _) | (show AW _ _ (.region _ _ true) _ _ _; refine aw_draw' mix (by kernel_rfl) ?_; intro O1) | fail)
    exact ret_pure (Am rfl A0) (.refl _) rfl
  have hll : (twL b).length = b.length + 3 := by simp [twL]
  have h1 := num_Take (x := sT b) (n := n) (Ap b)
  have h2 := ref_Take (x := sT b) (n := n) (Ap b)
  have h3 := (ref_Put (x := sT b) (v := v) (n := n) (Ap b) (by omega) hv).pure
  refine acalls_mk (N := 61) (rs := [.tmp 6]) hG Try.func3 rfl rfl rfl rfl rfl ?_
  repeat' (first
    | ((first | (show AL _ _ _ _ _ _ _ _; refine Ac Y ?_) | (show DL _ _ _ _ _ _ _; refine' dl_cons Y Y (fun K kk => ?_) ?_; try (show Go.Ts.T; rotate_left))); (first
      | refine Ar hG Y Y ?_
      | refine r_asg hG Y Y ?_
      | (show AOp _ _ ⟨_, .call ⟨.builtin .len, _, _⟩, _, _, _, _⟩ _ _ _; first | refine r_lenm hG Y Y Y Y ?_ | refine r_len hG Y Y Y Y Y ?_)
      | (show AOp _ _ ⟨_, .binOp _ _ _ _ _, _, _, _, _⟩ _ _ _; first | refine Az hG Y Y Y Y Y (by omega) ?_ | refine Ax hG Y Y Y Y Y (by omega) ?_ | refine r_strT hG Y Y Y Y (by first | rfl | assumption) ?_ | refine r_strnF hG Y Y Y Y (by first | rfl | assumption) ?_ | refine r_strF hG Y Y Y Y (by assumption) ?_ | refine r_strnT hG Y Y Y Y (by assumption) ?_ | ((fail_if_success have := kk); refine r_cmp hG Y Y Y Y Y (fun h => ?_) (fun h => ?_)) | ((fail_if_success have := kk); first | refine r_str hG Y Y Y Y (fun h => ?_) (fun h => ?_) | refine r_strn hG Y Y Y Y (fun h => ?_) (fun h => ?_)))
      | (show AOp _ _ ⟨_, .convert _ _ _, _, _, _, _⟩ _ _ _; first | refine r_tostr hG Y Y Y Y Y Y Y Y (by first | exact Ah _ _ | exact Ap _ | rfl) ?_)
      | refine r_pick hG Y Y Y ?_
      | refine r_not hG Y Y Y ?_
      | (show AOp _ _ ⟨_, .call ⟨.value _, _, _⟩, _, _, _, _⟩ _ _ _; first | refine r_pure Y Y Y Y Y (by first | (apply h0 <;> (first | assumption | omega | exact Ah _ _ | exact Ap _ | exact A2 _ _ | exact catsT_c _ | rfl | (simp; omega))) | fail) ?_ | fail)
      | refine r_q hG Y Y Y ?_); try exact kk)
    | (show AL _ _ _ _ _ _ _ _; first | refine al_s Y Y Y ?_ | (refine Aq ?_; first | show AW _ _ _ _ _ _ | show ∃ x', _ < _ ∧ _)) | (show AW _ _ (.seq _ _) _ _ _; refine Ai ?_; intro Q1) | (show AW _ _ (.region _ _ false) _ _ _; refine Af ?_; intro O1) | (show AW _ _ (.cond _ _ _) _ _ _; first | refine Al Y ?_ | refine Ak Y ?_ | refine aw_if Y (fun h => ?_) (fun h => ?_)) | (show AW _ _ (.skip) _ _ _; refine Aj ?_; first | show AW _ _ _ _ _ _ | show ∃ x', _ < _ ∧ _) | (show AW _ _ (.ret) _ _ _; refine As ?_; try dsimp only [Au, Ab, At, Ad])
    | (show DL _ _ _ _ _ _ _; refine dl_d Y Y (fun K kt kf => r_cmp hG Y Y Y Y Y kt kf) (fun h => ?_) (fun h => ?_)) | (show DL _ _ _ _ _ _ _; refine dl_d Y Y (fun K kt kf => r_str hG Y Y Y Y kt kf) (fun h => ?_) (fun h => ?_)) | (show DL _ _ _ _ _ _ _; refine dl_ne Y Y (fun K kt kf => r_strn hG Y Y Y Y kt kf) (fun h => ?_) (fun h => ?_))
    | (show DL _ _ _ _ _ _ _; refine dl_s Y Y Y ?_) | (show DL _ _ _ _ _ _ _; refine dl_nil ?_; first | show AW _ _ _ _ _ _ | show ∃ x', _ < _ ∧ _) | (show AW _ _ (.region _ _ true) _ _ _; refine aw_draw' mix (by kernel_rfl) ?_; intro O1) | fail)
  refine Ac rfl (r_onL0 rfl rfl rfl rfl rfl (law_Twin (by omega)) ?_)
  rintro u L' ⟨i, rfl, rfl⟩
  repeat' (first
    | ((first | (show AL _ _ _ _ _ _ _ _; refine Ac Y ?_) | (show DL _ _ _ _ _ _ _; refine' dl_cons Y Y (fun K kk => ?_) ?_; try (show Go.Ts.T; rotate_left))); (first
      | refine Ar hG Y Y ?_
      | refine r_asg hG Y Y ?_
      | (show AOp _ _ ⟨_, .call ⟨.builtin .len, _, _⟩, _, _, _, _⟩ _ _ _; first | refine r_lenm hG Y Y Y Y ?_ | refine r_len hG Y Y Y Y Y ?_)
      | (show AOp _ _ ⟨_, .binOp _ _ _ _ _, _, _, _, _⟩ _ _ _; first | refine Az hG Y Y Y Y Y (by omega) ?_ | refine Ax hG Y Y Y Y Y (by omega) ?_ | refine r_strT hG Y Y Y Y (by first | rfl | assumption) ?_ | refine r_strnF hG Y Y Y Y (by first | rfl | assumption) ?_ | refine r_strF hG Y Y Y Y (by assumption) ?_ | refine r_strnT hG Y Y Y Y (by assumption) ?_ | ((fail_if_success have := kk); refine r_cmp hG Y Y Y Y Y (fun h => ?_) (fun h => ?_)) | ((fail_if_success have := kk); first | refine r_str hG Y Y Y Y (fun h => ?_) (fun h => ?_) | refine r_strn hG Y Y Y Y (fun h => ?_) (fun h => ?_)))
      | (show AOp _ _ ⟨_, .convert _ _ _, _, _, _, _⟩ _ _ _; first | refine r_tostr hG Y Y Y Y Y Y Y Y (by first | exact Ah _ _ | exact Ap _ | rfl) ?_)
      | refine r_pick hG Y Y Y ?_
      | refine r_not hG Y Y Y ?_
      | refine r_q hG Y Y Y ?_); try exact kk)
    | (show AL _ _ _ _ _ _ _ _; first | refine al_s Y Y Y ?_ | (refine Aq ?_; first | show AW _ _ _ _ _ _ | show ∃ x', _ < _ ∧ _)) | (show AW _ _ (.seq _ _) _ _ _; refine Ai ?_; intro Q1) | (show AW _ _ (.region _ _ false) _ _ _; refine Af ?_; intro O1) | (show AW _ _ (.cond _ _ _) _ _ _; first | refine Al Y ?_ | refine Ak Y ?_ | refine aw_if Y (fun h => ?_) (fun h => ?_)) | (show AW _ _ (.skip) _ _ _; refine Aj ?_; first | show AW _ _ _ _ _ _ | show ∃ x', _ < _ ∧ _) | (show AW _ _ (.ret) _ _ _; refine As ?_; try dsimp only [Au, Ab, At, Ad])
    | (show DL _ _ _ _ _ _ _; refine dl_d Y Y (fun K kt kf => r_cmp hG Y Y Y Y Y kt kf) (fun h => ?_) (fun h => ?_)) | (show DL _ _ _ _ _ _ _; refine dl_d Y Y (fun K kt kf => r_str hG Y Y Y Y kt kf) (fun h => ?_) (fun h => ?_)) | (show DL _ _ _ _ _ _ _; refine dl_ne Y Y (fun K kt kf => r_strn hG Y Y Y Y kt kf) (fun h => ?_) (fun h => ?_))
    | (show DL _ _ _ _ _ _ _; refine dl_s Y Y Y ?_) | (show DL _ _ _ _ _ _ _; refine dl_nil ?_; first | show AW _ _ _ _ _ _ | show ∃ x', _ < _ ∧ _) | (show AW _ _ (.region _ _ true) _ _ _; refine aw_draw' mix (by kernel_rfl) ?_; intro O1) | fail)
  refine Ac rfl (r_ownsL rfl rfl rfl rfl (Lf := []) (.refl _) (put_l (l := twL b) (b := b) (v := v) (n := n) (by omega) (twL_take b) (by omega) hv i) (fun k => ?_))
  have hk := And.intro (law_Kept (b := b) (by omega) i) (List.Perm.refl [(i, Ob.cells ((twL b).map bT))])
  have hpl := putI_le v n
  repeat' (first
    | ((first | (show AL _ _ _ _ _ _ _ _; refine Ac Y ?_) | (show DL _ _ _ _ _ _ _; refine' dl_cons Y Y (fun K kk => ?_) ?_; try (show Go.Ts.T; rotate_left))); (first
      | refine Ar hG Y Y ?_
      | refine r_asg hG Y Y ?_
      | (show AOp _ _ ⟨_, .call ⟨.builtin .len, _, _⟩, _, _, _, _⟩ _ _ _; first | refine r_lenm hG Y Y Y Y ?_ | refine r_len hG Y Y Y Y Y ?_)
      | (show AOp _ _ ⟨_, .binOp _ _ _ _ _, _, _, _, _⟩ _ _ _; first | refine Az hG Y Y Y Y Y (by omega) ?_ | refine Ax hG Y Y Y Y Y (by omega) ?_ | refine r_strT hG Y Y Y Y (by first | rfl | assumption) ?_ | refine r_strnF hG Y Y Y Y (by first | rfl | assumption) ?_ | refine r_strF hG Y Y Y Y (by assumption) ?_ | refine r_strnT hG Y Y Y Y (by assumption) ?_ | ((fail_if_success have := kk); refine r_cmp hG Y Y Y Y Y (fun h => ?_) (fun h => ?_)) | ((fail_if_success have := kk); first | refine r_str hG Y Y Y Y (fun h => ?_) (fun h => ?_) | refine r_strn hG Y Y Y Y (fun h => ?_) (fun h => ?_)))
      | (show AOp _ _ ⟨_, .convert _ _ _, _, _, _, _⟩ _ _ _; first | refine r_tostr hG Y Y Y Y Y Y Y Y (by first | exact Ah _ _ | exact Ap _ | rfl) ?_)
      | refine r_pick hG Y Y Y ?_
      | refine r_not hG Y Y Y ?_
      | (show AOp _ _ ⟨_, .call ⟨.value _, _, _⟩, _, _, _, _⟩ _ _ _; first | refine r_pure Y Y Y Y Y (by first | (apply h1 <;> (first | assumption | omega | exact Ah _ _ | exact Ap _ | exact A2 _ _ | exact catsT_c _ | rfl | (simp; omega))) | fail) ?_ | refine r_pure Y Y Y Y Y (by first | (apply h2 <;> (first | assumption | omega | exact Ah _ _ | exact Ap _ | exact A2 _ _ | exact catsT_c _ | rfl | (simp; omega))) | fail) ?_ | refine r_pure Y Y Y Y Y (by first | (apply h3 <;> (first | assumption | omega | exact Ah _ _ | exact Ap _ | exact A2 _ _ | exact catsT_c _ | rfl | (simp; omega))) | fail) ?_ | refine r_onS Y Y Y Y hk.1 hk.2 ?_ | fail)
      | refine r_q hG Y Y Y ?_); try exact kk)
    | (show AL _ _ _ _ _ _ _ _; first | refine al_s Y Y Y ?_ | (refine Aq ?_; first | show AW _ _ _ _ _ _ | show ∃ x', _ < _ ∧ _)) | (show AW _ _ (.seq _ _) _ _ _; refine Ai ?_; intro Q1) | (show AW _ _ (.region _ _ false) _ _ _; refine Af ?_; intro O1) | (show AW _ _ (.cond _ _ _) _ _ _; first | refine Al Y ?_ | refine Ak Y ?_ | refine aw_if Y (fun h => ?_) (fun h => ?_)) | (show AW _ _ (.skip) _ _ _; refine Aj ?_; first | show AW _ _ _ _ _ _ | show ∃ x', _ < _ ∧ _) | (show AW _ _ (.ret) _ _ _; refine As ?_; try dsimp only [Au, Ab, At, Ad])
    | (show DL _ _ _ _ _ _ _; refine dl_d Y Y (fun K kt kf => r_cmp hG Y Y Y Y Y kt kf) (fun h => ?_) (fun h => ?_)) | (show DL _ _ _ _ _ _ _; refine dl_d Y Y (fun K kt kf => r_str hG Y Y Y Y kt kf) (fun h => ?_) (fun h => ?_)) | (show DL _ _ _ _ _ _ _; refine dl_ne Y Y (fun K kt kf => r_strn hG Y Y Y Y kt kf) (fun h => ?_) (fun h => ?_))
    | (show DL _ _ _ _ _ _ _; refine dl_s Y Y Y ?_) | (show DL _ _ _ _ _ _ _; refine dl_nil ?_; first | show AW _ _ _ _ _ _ | show ∃ x', _ < _ ∧ _) | (show AW _ _ (.region _ _ true) _ _ _; refine aw_draw' mix (by kernel_rfl) ?_; intro O1) | fail)
  exact ret_pure (Am rfl A0) (.refl _) rfl
theorem numAll_law (_W : World) (x : T) (tx : ArgTy G 6 22 x) (v : Int) (wv : (Lit.int .u64 v).wf = true) (n : Int) (_wn : (Lit.int .i64 n).wf = true) : ACalls Try.prog 3 [x, .int .u64 v, .int .i64 n] σ0 (fun r _ => r = .bool true) := by
  obtain ⟨b, rfl, hl⟩ := argTy_bytes (n := 4) tx rfl rfl rfl rfl rfl
  exact (numAll_pure (wf_u64 wv).1 hl (fun _ _ => False)).mono fun _ _ h => h.1
end Go.Proofs.Ythfgocinlbogeaa
