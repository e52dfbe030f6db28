/- Part of the proof of the law Object1All: the texts S2, S3, PC, S5, O1, RA, RP, OP0, S6, S7, S8, LA. No conditions. -/
import Derived.Test.YtemgmkoggnjgjaaObject1AllB
set_option linter.unusedSimpArgs false
set_option linter.unusedVariables false
namespace Go.Proofs.Ytemgmkoggnjgjaa
open Go.Ts
attribute [local irreducible] Go.Ts.AW Go.Ts.AOps Go.Ts.AL Go.Ts.AOp Go.Ts.ACalls Go.Ts.DL
theorem grow_nil {n : Int} (hn : 0 ≤ n ∧ n ≤ 4294967296) : Owns Try.prog 63 [.nilsl, .int .i64 n] 1 [] := by
  intro off
  refine Bd (N := 27) (rs := [.tmp 4]) hG Try.func63 rfl rfl rfl rfl rfl ?_
  repeat' (first
    | ((show AL _ _ _ _ _ _ _ _; refine Ag Y ?_); (first
      | (show AOp _ _ ⟨_, .move _, _, _, _, _⟩ _ _ _; refine Ap hG Y Y ?_)
      | (show AOp _ _ ⟨_, .assign _, _, _, _, _⟩ _ _ _; refine A2 hG Y Y ?_)
      | (show AOp _ _ ⟨_, .call ⟨.builtin .len, _, _⟩, _, _, _, _⟩ _ _ _; first | refine Ax hG Y Y Y Y ?_ | refine A7 hG Y Y Y Y Y ?_)
      | (show AOp _ _ ⟨_, .binOp .sub _ _ _ _, _, _, _, _⟩ _ _ _; first | refine Aj hG Y Y Y Y Y (by omega) ?_)
      | (show AOp _ _ ⟨_, .binOp _ _ _ _ _, _, _, _, _⟩ _ _ _; first | refine Au hG Y Y Y Y Y (by omega) ?_ | refine As hG Y Y Y Y Y (by omega) ?_ | (refine Av hG Y Y Y Y Y (fun h => ?_) (fun h => ?_)))
      | (show AOp _ _ ⟨_, .slice _ _ _ _ _, _, _, _, _⟩ _ _ _; first | refine r_sl_hin hG Y Y Y Y Y Y Y (by omega) ?_ | refine r_sl_hi hG Y Y Y Y Y Y Y (by omega) ?_ | refine op_cut0 hG Y Y Y Y Y Y Y Y Y Y ?_ | refine r_sl hG Y Y ?_)
      | (show AOp _ _ ⟨_, .call ⟨.builtin .append, _, _⟩, _, _, _, _⟩ _ _ _; first | refine Bg (sz := 1) (xs := []) hG Y Y Y Y Y Y Y ⟨_, Y⟩ Y Y Y Y Y Y Y (by first | omega | (simp; omega)) (fun k => ?_) | refine Bm 0 hG Y Y Y Y Y Y Y ⟨_, Y⟩ Y Y Y Y Y (by first | omega | (simp only [List.length_append, List.length_cons, List.length_nil]; omega)) (fun k => ?_) | fail)
      | refine r_q hG Y Y Y ?_))
    | (show AL _ _ _ _ _ _ _ _; first | refine Be Y Y Y ?_ | (refine Ar ?_; first | show AW _ _ _ _ _ _ | show ∃ x', _ < _ ∧ _)) | (show AW _ _ (.seq _ _) _ _ _; refine Ah ?_; intro Q1) | (show AW _ _ (.region _ _ false) _ _ _; refine Ac ?_; intro O1) | (show AW _ _ (.cond _ _ _) _ _ _; first | refine Am Y ?_ | refine Ao Y ?_) | (show AW _ _ (.skip) _ _ _; refine Ak ?_; first | show AW _ _ _ _ _ _ | show ∃ x', _ < _ ∧ _) | (show AW _ _ (.ret) _ _ _; refine Aq ?_; try dsimp only [A1, Ab, A0, Af]) | fail)
  · refine Ag rfl (op_zeros hG rfl rfl rfl rfl rfl rfl rfl rfl rfl rfl rfl (by omega) (fun i cap hc => ?_))
    repeat' (first
    | ((show AL _ _ _ _ _ _ _ _; refine Ag Y ?_); (first
      | (show AOp _ _ ⟨_, .move _, _, _, _, _⟩ _ _ _; refine Ap hG Y Y ?_)
      | (show AOp _ _ ⟨_, .assign _, _, _, _, _⟩ _ _ _; refine A2 hG Y Y ?_)
      | (show AOp _ _ ⟨_, .call ⟨.builtin .len, _, _⟩, _, _, _, _⟩ _ _ _; first | refine Ax hG Y Y Y Y ?_ | refine A7 hG Y Y Y Y Y ?_)
      | (show AOp _ _ ⟨_, .binOp .sub _ _ _ _, _, _, _, _⟩ _ _ _; first | refine Aj hG Y Y Y Y Y (by omega) ?_)
      | (show AOp _ _ ⟨_, .binOp _ _ _ _ _, _, _, _, _⟩ _ _ _; first | refine Au hG Y Y Y Y Y (by omega) ?_ | refine As hG Y Y Y Y Y (by omega) ?_ | (refine Av hG Y Y Y Y Y (fun h => ?_) (fun h => ?_)))
      | (show AOp _ _ ⟨_, .slice _ _ _ _ _, _, _, _, _⟩ _ _ _; first | refine r_sl_hin hG Y Y Y Y Y Y Y (by omega) ?_ | refine r_sl_hi hG Y Y Y Y Y Y Y (by omega) ?_ | refine op_cut0 hG Y Y Y Y Y Y Y Y Y Y ?_ | refine r_sl hG Y Y ?_)
      | (show AOp _ _ ⟨_, .call ⟨.builtin .append, _, _⟩, _, _, _, _⟩ _ _ _; first | refine Bg (sz := 1) (xs := []) hG Y Y Y Y Y Y Y ⟨_, Y⟩ Y Y Y Y Y Y Y (by first | omega | (simp; omega)) (fun k => ?_) | refine Bm 0 hG Y Y Y Y Y Y Y ⟨_, Y⟩ Y Y Y Y Y (by first | omega | (simp only [List.length_append, List.length_cons, List.length_nil]; omega)) (fun k => ?_) | fail)
      | refine r_q hG Y Y Y ?_))
    | (show AL _ _ _ _ _ _ _ _; first | refine Be Y Y Y ?_ | (refine Ar ?_; first | show AW _ _ _ _ _ _ | show ∃ x', _ < _ ∧ _)) | (show AW _ _ (.seq _ _) _ _ _; refine Ah ?_; intro Q1) | (show AW _ _ (.region _ _ false) _ _ _; refine Ac ?_; intro O1) | (show AW _ _ (.cond _ _ _) _ _ _; first | refine Am Y ?_ | refine Ao Y ?_) | (show AW _ _ (.skip) _ _ _; refine Ak ?_; first | show AW _ _ _ _ _ _ | show ∃ x', _ < _ ∧ _) | fail)
    refine aw_room 0 4 rfl rfl rfl rfl (fun k => ?_)
    exact Aq (ret_owns 0 (Aw rfl Ay) rfl rfl rfl)
  · exact ret_owns0 (sz := 1) (Aw rfl Ay) rfl rfl rfl rfl

def lettersOf : List T → Option (List (List UInt8))
  | [] => some []
  | t :: r => match bytesT t, lettersOf r with
    | some b, some s => some (b :: s)
    | _, _ => none
theorem lettersOf_map : ∀ (l : List (List UInt8)), lettersOf (l.map sT) = some l
  | [] => rfl
  | x :: l => by simp only [List.map_cons, lettersOf, Ae, lettersOf_map l]
theorem bytesT_scalar {t : T} {b : List UInt8} (h : bytesT t = some b) : t.scalar = true := by
  unfold bytesT at h
  split at h
  · rfl
  · rfl
  · cases h
theorem lettersOf_wk : ∀ {xs : List T} {l : List (List UInt8)}, lettersOf xs = some l → xs.length = l.length ∧ ∀ (i : Nat) (x : T) (b : List UInt8), xs[i]? = some x → l[i]? = some b → x.scalar = true ∧ Wk x (sT b)
  | [], l, h => by simp [lettersOf] at h; subst h; exact ⟨rfl, fun i x b h => by simp at h⟩
  | t :: xs, l, h => by
    simp only [lettersOf] at h
    split at h
    · rename_i b s hb hs
      injection h with h; subst h
      obtain ⟨h1, h2⟩ := lettersOf_wk hs
      refine ⟨by simp [h1], fun i x c hx hc => ?_⟩
      cases i with
      | zero => simp at hx hc; subst hx; subst hc; exact ⟨bytesT_scalar hb, bytesT_wk hb⟩
      | succ i => exact h2 i x c (by simpa using hx) (by simpa using hc)
    · cases h
def lettersT : T → Option (List (List UInt8))
  | .nilsl => some []
  | .sl 1 _ xs => lettersOf xs
  | _ => none
def lT (l : List (List UInt8)) : T := .sl 1 .no (l.map sT)
theorem lettersT_l (l : List (List UInt8)) : lettersT (lT l) = some l := lettersOf_map l
theorem lettersT_wk {x : T} {l : List (List UInt8)} (h : lettersT x = some l) : Wk x (lT l) := by
  unfold lettersT at h
  split at h
  · injection h with h; subst h; exact Wk.nil 1
  · rename_i own xs
    obtain ⟨h1, h2⟩ := lettersOf_wk h
    refine (Wk.own 1 own xs).trans (Wk.list (by simpa using h1) fun i x y hx hy => ?_)
    rw [List.getElem?_map] at hy
    cases hl : l[i]? with
    | none => rw [hl] at hy; cases hy
    | some b =>
      rw [hl] at hy; injection hy with hy; subst hy
      obtain ⟨h3, h4⟩ := h2 i x b hx hl
      exact ⟨h3, rfl, h4⟩
  · cases h
instance : Enc lT 1 := ⟨fun x c h => by simp [lT, T.cells] at h; subst h; rfl, fun x => rfl⟩

def total (bs : List (List UInt8)) : Nat := (bs.map List.length).sum
theorem total_snoc (bs : List (List UInt8)) (b : List UInt8) : total (bs ++ [b]) = total bs + b.length := by simp [total]
theorem total_take_le (bs : List (List UInt8)) (i : Nat) : total (bs.take i) ≤ total bs := by
  have h : total bs = total (bs.take i) + total (bs.drop i) := by
    conv => lhs; rw [← List.take_append_drop i bs]
    simp only [total, List.map_append, List.sum_append]
  omega
theorem flatten_length (bs : List (List UInt8)) : bs.flatten.length = total bs := by simp [total, List.length_flatten]
theorem take_getD {α : Type} [Inhabited α] (l : List α) (i : Nat) (h : i < l.length) : l.take (i + 1) = l.take i ++ [l.getD i default] := by
  rw [List.take_succ_eq_append_getElem h]; simp [List.getElem?_eq_getElem h]

structure CatX (bs : List (List UInt8)) where
  i : Nat
  hi : i ≤ bs.length
structure CatY (bs : List (List UInt8)) where
  i : Nat
  k : Nat
  hi : i ≤ bs.length
theorem concat_b {x : T} {bs : List (List UInt8)} (hx : lettersT x = some bs) (hb : total bs ≤ 4294967200) (hn : bs.length ≤ 4294967296) :
    Owns Try.prog 44 [x] 1 (bs.flatten.map bT) := by
  refine Owns.weak (us := [lT bs]) ?_ (wk1 (lettersT_wk hx))
  intro off
  refine Bd (N := 36) (rs := [.tmp 2]) hG Try.func44 rfl rfl rfl rfl rfl ?_
  repeat' (first
    | ((show AL _ _ _ _ _ _ _ _; refine Ag Y ?_); (first
      | (show AOp _ _ ⟨_, .move _, _, _, _, _⟩ _ _ _; refine Ap hG Y Y ?_)
      | (show AOp _ _ ⟨_, .assign _, _, _, _, _⟩ _ _ _; refine A2 hG Y Y ?_)
      | (show AOp _ _ ⟨_, .call ⟨.builtin .len, _, _⟩, _, _, _, _⟩ _ _ _; first | refine Ax hG Y Y Y Y ?_ | refine A7 hG Y Y Y Y Y ?_)
      | (show AOp _ _ ⟨_, .binOp .add _ _ _ _, _, _, _, _⟩ _ _ _; first | refine Aj hG Y Y Y Y Y (by omega) ?_)
      | (show AOp _ _ ⟨_, .binOp _ _ _ _ _, _, _, _, _⟩ _ _ _; first | refine Au hG Y Y Y Y Y (by omega) ?_ | refine As hG Y Y Y Y Y (by omega) ?_ | (refine Av hG Y Y Y Y Y (fun h => ?_) (fun h => ?_)))
      | (show AOp _ _ ⟨_, .load _ _, _, _, _, _⟩ _ _ _; first | refine A9 hG Y Y Y ?_ | refine A4 0 hG Y Y Y Y ?_)
      | (show AOp _ _ ⟨_, .indexAddr _ _ _, _, _, _, _⟩ _ _ _; first | refine A8 hG Y Y Y Y Y Y Y (by omega) ?_ | refine Ba hG Y Y Y Y Y Y Y (by omega) ?_ | refine Bj hG Y Y ?_)
      | (show AOp _ _ ⟨_, .call ⟨.builtin .append, _, _⟩, _, _, _, _⟩ _ _ _; first | refine Bg (sz := 1) (xs := []) hG Y Y Y Y Y Y Y ⟨_, Y⟩ Y Y Y Y Y Y Y (by first | omega | (simp; omega)) (fun k => ?_) | refine Bm 0 hG Y Y Y Y Y Y Y ⟨_, Y⟩ Y Y Y Y Y (by first | omega | (simp only [List.length_append, List.length_cons, List.length_nil]; omega)) (fun k => ?_) | fail)
      | refine r_q hG Y Y Y ?_))
    | (show AL _ _ _ _ _ _ _ _; first | refine Be Y Y Y ?_ | (refine Ar ?_; first | show AW _ _ _ _ _ _ | show ∃ x', _ < _ ∧ _)) | (show AW _ _ (.seq _ _) _ _ _; refine Ah ?_; intro Q1) | (show AW _ _ (.region _ _ false) _ _ _; refine Ac ?_; intro O1) | (show AW _ _ (.cond _ _ _) _ _ _; first | refine Am Y ?_ | refine Ao Y ?_) | (show AW _ _ (.skip) _ _ _; refine Ak ?_; first | show AW _ _ _ _ _ _ | show ∃ x', _ < _ ∧ _) | (show AW _ _ (.block _ _) _ _ _; refine Ai ?_; intro Q1) | (show AW _ _ (.exit _) _ _ _; refine A5 ?_; first | show AW _ _ _ _ _ _ | show ∃ x', _ < _ ∧ _) | (show AW _ _ (.ret) _ _ _; refine Aq ?_; try dsimp only [A1, Ab, A0, Af]) | fail)
  refine aw_loop (X := CatX bs) (fun x => [(0, lT bs), (9, lT bs), (10, .int .i64 bs.length), (11, .int .i64 x.i), (3, .int .i64 (total (bs.take x.i)))]) (fun x => ⟨[], [], off, none⟩) (fun x => bs.length - x.i) ⟨0, Nat.zero_le _⟩ ?_ (.refl _) ?_
  · exact .cons rfl (.cons rfl (.consW rfl (.int (by simp)) (.consW rfl (.int rfl) (.consW rfl (.int (by simp [total])) (.nil _)))))
  rintro ⟨i, hi⟩
  dsimp only
  have hle := total_take_le bs i
  by_cases hib : i < bs.length
  · have htk := take_getD bs i hib
    have hle2 := total_take_le bs (i + 1)
    rw [htk, total_snoc] at hle2
    repeat' (first
    | ((show AL _ _ _ _ _ _ _ _; refine Ag Y ?_); (first
      | (show AOp _ _ ⟨_, .move _, _, _, _, _⟩ _ _ _; refine Ap hG Y Y ?_)
      | (show AOp _ _ ⟨_, .assign _, _, _, _, _⟩ _ _ _; refine A2 hG Y Y ?_)
      | (show AOp _ _ ⟨_, .call ⟨.builtin .len, _, _⟩, _, _, _, _⟩ _ _ _; first | refine Ax hG Y Y Y Y ?_ | refine A7 hG Y Y Y Y Y ?_)
      | (show AOp _ _ ⟨_, .binOp .add _ _ _ _, _, _, _, _⟩ _ _ _; first | refine Aj hG Y Y Y Y Y (by omega) ?_)
      | (show AOp _ _ ⟨_, .binOp _ _ _ _ _, _, _, _, _⟩ _ _ _; first | refine Au hG Y Y Y Y Y (by omega) ?_ | refine As hG Y Y Y Y Y (by omega) ?_ | (refine Av hG Y Y Y Y Y (fun h => ?_) (fun h => ?_)))
      | (show AOp _ _ ⟨_, .load _ _, _, _, _, _⟩ _ _ _; first | refine A9 hG Y Y Y ?_ | refine A4 0 hG Y Y Y Y ?_)
      | (show AOp _ _ ⟨_, .indexAddr _ _ _, _, _, _, _⟩ _ _ _; first | refine A8 hG Y Y Y Y Y Y Y (by omega) ?_ | refine Ba hG Y Y Y Y Y Y Y (by omega) ?_ | refine Bj hG Y Y ?_)
      | (show AOp _ _ ⟨_, .call ⟨.builtin .append, _, _⟩, _, _, _, _⟩ _ _ _; first | refine Bg (sz := 1) (xs := []) hG Y Y Y Y Y Y Y ⟨_, Y⟩ Y Y Y Y Y Y Y (by first | omega | (simp; omega)) (fun k => ?_) | refine Bm 0 hG Y Y Y Y Y Y Y ⟨_, Y⟩ Y Y Y Y Y (by first | omega | (simp only [List.length_append, List.length_cons, List.length_nil]; omega)) (fun k => ?_) | fail)
      | refine r_q hG Y Y Y ?_))
    | (show AL _ _ _ _ _ _ _ _; first | refine Be Y Y Y ?_ | (refine Ar ?_; first | show AW _ _ _ _ _ _ | show ∃ x', _ < _ ∧ _)) | (show AW _ _ (.seq _ _) _ _ _; refine Ah ?_; intro Q1) | (show AW _ _ (.region _ _ false) _ _ _; refine Ac ?_; intro O1) | (show AW _ _ (.cond _ _ _) _ _ _; first | refine Am Y ?_ | refine Ao Y ?_) | (show AW _ _ (.skip) _ _ _; refine Ak ?_; first | show AW _ _ _ _ _ _ | show ∃ x', _ < _ ∧ _) | (show AW _ _ (.block _ _) _ _ _; refine Ai ?_; intro Q1) | (show AW _ _ (.exit _) _ _ _; refine A5 ?_; first | show AW _ _ _ _ _ _ | show ∃ x', _ < _ ∧ _) | (show AW _ _ (.ret) _ _ _; refine Aq ?_; try dsimp only [A1, Ab, A0, Af]) | fail)
    refine ⟨⟨i + 1, by omega⟩, by dsimp only; omega, ?_, .refl _⟩
    refine .cons rfl (.cons rfl (.cons rfl (.consW rfl (.int (by simp)) (.consW rfl (.int ?_) (.nil _)))))
    show _ = ((total (bs.take (i + 1)) : Nat) : Int)
    rw [htk, total_snoc]; simp
  · obtain rfl : i = bs.length := by omega
    rw [List.take_length] at *
    repeat' (first
    | ((show AL _ _ _ _ _ _ _ _; refine Ag Y ?_); (first
      | (show AOp _ _ ⟨_, .move _, _, _, _, _⟩ _ _ _; refine Ap hG Y Y ?_)
      | (show AOp _ _ ⟨_, .assign _, _, _, _, _⟩ _ _ _; refine A2 hG Y Y ?_)
      | (show AOp _ _ ⟨_, .call ⟨.builtin .len, _, _⟩, _, _, _, _⟩ _ _ _; first | refine Ax hG Y Y Y Y ?_ | refine A7 hG Y Y Y Y Y ?_)
      | (show AOp _ _ ⟨_, .binOp .add _ _ _ _, _, _, _, _⟩ _ _ _; first | refine Aj hG Y Y Y Y Y (by omega) ?_)
      | (show AOp _ _ ⟨_, .binOp _ _ _ _ _, _, _, _, _⟩ _ _ _; first | refine Au hG Y Y Y Y Y (by omega) ?_ | refine As hG Y Y Y Y Y (by omega) ?_ | (refine Av hG Y Y Y Y Y (fun h => ?_) (fun h => ?_)))
      | (show AOp _ _ ⟨_, .load _ _, _, _, _, _⟩ _ _ _; first | refine A9 hG Y Y Y ?_ | refine A4 0 hG Y Y Y Y ?_)
      | (show AOp _ _ ⟨_, .indexAddr _ _ _, _, _, _, _⟩ _ _ _; first | refine A8 hG Y Y Y Y Y Y Y (by omega) ?_ | refine Ba hG Y Y Y Y Y Y Y (by omega) ?_ | refine Bj hG Y Y ?_)
      | (show AOp _ _ ⟨_, .call ⟨.builtin .append, _, _⟩, _, _, _, _⟩ _ _ _; first | refine Bg (sz := 1) (xs := []) hG Y Y Y Y Y Y Y ⟨_, Y⟩ Y Y Y Y Y Y Y (by first | omega | (simp; omega)) (fun k => ?_) | refine Bm 0 hG Y Y Y Y Y Y Y ⟨_, Y⟩ Y Y Y Y Y (by first | omega | (simp only [List.length_append, List.length_cons, List.length_nil]; omega)) (fun k => ?_) | fail)
      | (show AOp _ _ ⟨_, .call ⟨.value _, _, _⟩, _, _, _, _⟩ _ _ _; first | (refine r_owns Y Y Y Y Y (by apply grow_nil <;> (first | assumption | omega | exact Aa _ _ | exact Ae _ | exact Ad _ _ | exact Al _ | rfl | (simp; omega))) (fun k => ?_)) | (have := kk; clear this; refine A6 Y Y Y Y Y (Owns.pure (by apply grow_nil <;> (first | assumption | omega | exact Aa _ _ | exact Ae _ | exact Ad _ _ | exact Al _ | rfl | (simp; omega)))) ?_) | fail)
      | refine r_q hG Y Y Y ?_))
    | (show AL _ _ _ _ _ _ _ _; first | refine Be Y Y Y ?_ | (refine Ar ?_; first | show AW _ _ _ _ _ _ | show ∃ x', _ < _ ∧ _)) | (show AW _ _ (.seq _ _) _ _ _; refine Ah ?_; intro Q1) | (show AW _ _ (.region _ _ false) _ _ _; refine Ac ?_; intro O1) | (show AW _ _ (.cond _ _ _) _ _ _; first | refine Am Y ?_ | refine Ao Y ?_) | (show AW _ _ (.skip) _ _ _; refine Ak ?_; first | show AW _ _ _ _ _ _ | show ∃ x', _ < _ ∧ _) | (show AW _ _ (.block _ _) _ _ _; refine Ai ?_; intro Q1) | (show AW _ _ (.exit _) _ _ _; refine A5 ?_; first | show AW _ _ _ _ _ _ | show ∃ x', _ < _ ∧ _) | (show AW _ _ (.ret) _ _ _; refine Aq ?_; try dsimp only [A1, Ab, A0, Af]) | fail)
    refine aw_loop (X := CatY bs) (fun x => [(25, lT bs), (26, .int .i64 bs.length), (27, .int .i64 x.i), (6, .sl 1 (.tok x.k) ((bs.take x.i).flatten.map bT))]) (fun x => ⟨[], [x.k], off, none⟩) (fun x => bs.length - x.i) ⟨0, k, Nat.zero_le _⟩ ?_ (.refl _) ?_
    · exact .cons rfl (.consW rfl (.int (by simp)) (.consW rfl (.int rfl) (.consW rfl (.eq (by simp)) (.nil _))))
    rintro ⟨i, k, hi⟩
    dsimp only
    have hle := total_take_le bs i
    have hfl := flatten_length (bs.take i)
    by_cases hib : i < bs.length
    · have htk := take_getD bs i hib
      have hle2 := total_take_le bs (i + 1)
      rw [htk, total_snoc] at hle2
      repeat' (first
    | ((show AL _ _ _ _ _ _ _ _; refine Ag Y ?_); (first
      | (show AOp _ _ ⟨_, .move _, _, _, _, _⟩ _ _ _; refine Ap hG Y Y ?_)
      | (show AOp _ _ ⟨_, .assign _, _, _, _, _⟩ _ _ _; refine A2 hG Y Y ?_)
      | (show AOp _ _ ⟨_, .call ⟨.builtin .len, _, _⟩, _, _, _, _⟩ _ _ _; first | refine Ax hG Y Y Y Y ?_ | refine A7 hG Y Y Y Y Y ?_)
      | (show AOp _ _ ⟨_, .binOp .add _ _ _ _, _, _, _, _⟩ _ _ _; first | refine Aj hG Y Y Y Y Y (by omega) ?_)
      | (show AOp _ _ ⟨_, .binOp _ _ _ _ _, _, _, _, _⟩ _ _ _; first | refine Au hG Y Y Y Y Y (by omega) ?_ | refine As hG Y Y Y Y Y (by omega) ?_ | (refine Av hG Y Y Y Y Y (fun h => ?_) (fun h => ?_)))
      | (show AOp _ _ ⟨_, .load _ _, _, _, _, _⟩ _ _ _; first | refine A9 hG Y Y Y ?_ | refine A4 0 hG Y Y Y Y ?_)
      | (show AOp _ _ ⟨_, .indexAddr _ _ _, _, _, _, _⟩ _ _ _; first | refine A8 hG Y Y Y Y Y Y Y (by omega) ?_ | refine Ba hG Y Y Y Y Y Y Y (by omega) ?_ | refine Bj hG Y Y ?_)
      | (show AOp _ _ ⟨_, .call ⟨.builtin .append, _, _⟩, _, _, _, _⟩ _ _ _; first | refine Bg (sz := 1) (xs := []) hG Y Y Y Y Y Y Y ⟨_, Y⟩ Y Y Y Y Y Y Y (by first | omega | (simp; omega)) (fun k => ?_) | refine Bm 0 hG Y Y Y Y Y Y Y ⟨_, Y⟩ Y Y Y Y Y (by first | omega | (simp only [List.length_append, List.length_cons, List.length_nil]; omega)) (fun k => ?_) | fail)
      | refine r_q hG Y Y Y ?_))
    | (show AL _ _ _ _ _ _ _ _; first | refine Be Y Y Y ?_ | (refine Ar ?_; first | show AW _ _ _ _ _ _ | show ∃ x', _ < _ ∧ _)) | (show AW _ _ (.seq _ _) _ _ _; refine Ah ?_; intro Q1) | (show AW _ _ (.region _ _ false) _ _ _; refine Ac ?_; intro O1) | (show AW _ _ (.cond _ _ _) _ _ _; first | refine Am Y ?_ | refine Ao Y ?_) | (show AW _ _ (.skip) _ _ _; refine Ak ?_; first | show AW _ _ _ _ _ _ | show ∃ x', _ < _ ∧ _) | (show AW _ _ (.block _ _) _ _ _; refine Ai ?_; intro Q1) | (show AW _ _ (.exit _) _ _ _; refine A5 ?_; first | show AW _ _ _ _ _ _ | show ∃ x', _ < _ ∧ _) | (show AW _ _ (.ret) _ _ _; refine Aq ?_; try dsimp only [A1, Ab, A0, Af]) | fail)
      refine ⟨⟨i + 1, _, by omega⟩, by dsimp only; omega, ?_, .refl _⟩
      refine .cons rfl (.cons rfl (.consW rfl (.int (by simp)) (.consW rfl (.eq ?_) (.nil _))))
      rw [htk, List.flatten_append]; simp
    · obtain rfl : i = bs.length := by omega
      rw [List.take_length] at *
      repeat' (first
    | ((show AL _ _ _ _ _ _ _ _; refine Ag Y ?_); (first
      | (show AOp _ _ ⟨_, .move _, _, _, _, _⟩ _ _ _; refine Ap hG Y Y ?_)
      | (show AOp _ _ ⟨_, .assign _, _, _, _, _⟩ _ _ _; refine A2 hG Y Y ?_)
      | (show AOp _ _ ⟨_, .call ⟨.builtin .len, _, _⟩, _, _, _, _⟩ _ _ _; first | refine Ax hG Y Y Y Y ?_ | refine A7 hG Y Y Y Y Y ?_)
      | (show AOp _ _ ⟨_, .binOp .add _ _ _ _, _, _, _, _⟩ _ _ _; first | refine Aj hG Y Y Y Y Y (by omega) ?_)
      | (show AOp _ _ ⟨_, .binOp _ _ _ _ _, _, _, _, _⟩ _ _ _; first | refine Au hG Y Y Y Y Y (by omega) ?_ | refine As hG Y Y Y Y Y (by omega) ?_ | (refine Av hG Y Y Y Y Y (fun h => ?_) (fun h => ?_)))
      | (show AOp _ _ ⟨_, .load _ _, _, _, _, _⟩ _ _ _; first | refine A9 hG Y Y Y ?_ | refine A4 0 hG Y Y Y Y ?_)
      | (show AOp _ _ ⟨_, .indexAddr _ _ _, _, _, _, _⟩ _ _ _; first | refine A8 hG Y Y Y Y Y Y Y (by omega) ?_ | refine Ba hG Y Y Y Y Y Y Y (by omega) ?_ | refine Bj hG Y Y ?_)
      | (show AOp _ _ ⟨_, .call ⟨.builtin .append, _, _⟩, _, _, _, _⟩ _ _ _; first | refine Bg (sz := 1) (xs := []) hG Y Y Y Y Y Y Y ⟨_, Y⟩ Y Y Y Y Y Y Y (by first | omega | (simp; omega)) (fun k => ?_) | refine Bm 0 hG Y Y Y Y Y Y Y ⟨_, Y⟩ Y Y Y Y Y (by first | omega | (simp only [List.length_append, List.length_cons, List.length_nil]; omega)) (fun k => ?_) | fail)
      | refine r_q hG Y Y Y ?_))
    | (show AL _ _ _ _ _ _ _ _; first | refine Be Y Y Y ?_ | (refine Ar ?_; first | show AW _ _ _ _ _ _ | show ∃ x', _ < _ ∧ _)) | (show AW _ _ (.seq _ _) _ _ _; refine Ah ?_; intro Q1) | (show AW _ _ (.region _ _ false) _ _ _; refine Ac ?_; intro O1) | (show AW _ _ (.cond _ _ _) _ _ _; first | refine Am Y ?_ | refine Ao Y ?_) | (show AW _ _ (.skip) _ _ _; refine Ak ?_; first | show AW _ _ _ _ _ _ | show ∃ x', _ < _ ∧ _) | (show AW _ _ (.block _ _) _ _ _; refine Ai ?_; intro Q1) | (show AW _ _ (.exit _) _ _ _; refine A5 ?_; first | show AW _ _ _ _ _ _ | show ∃ x', _ < _ ∧ _) | (show AW _ _ (.ret) _ _ _; refine Aq ?_; try dsimp only [A1, Ab, A0, Af]) | fail)
      exact ret_owns 0 (Aw rfl Ay) rfl rfl rfl

def putBs (b s : List UInt8) : List UInt8 := b ++ putI s.length 2 ++ s
theorem num_PutBytes {x y : T} {b s : List UInt8} (hx : bytesT x = some b) (hy : bytesT y = some s) (hl : b.length ≤ 4294880000) (hs : s.length ≤ 70000) :
    Owns Try.prog 26 [x, y] 1 ((putBs b s).map bT) := by
  refine Owns.weak (us := [sT b, sT s]) ?_ (wk2 (bytesT_wk hx) (bytesT_wk hy))
  intro off
  refine Bd (N := 13) (rs := [.tmp 4]) hG Try.func26 rfl rfl rfl rfl rfl ?_
  have hpl := putI_le s.length 2
  repeat' (first
    | ((show AL _ _ _ _ _ _ _ _; refine Ag Y ?_); (first
      | (show AOp _ _ ⟨_, .move _, _, _, _, _⟩ _ _ _; refine Ap hG Y Y ?_)
      | (show AOp _ _ ⟨_, .assign _, _, _, _, _⟩ _ _ _; refine A2 hG Y Y ?_)
      | (show AOp _ _ ⟨_, .call ⟨.builtin .len, _, _⟩, _, _, _, _⟩ _ _ _; first | refine Ax hG Y Y Y Y ?_ | refine A7 hG Y Y Y Y Y ?_)
      | (show AOp _ _ ⟨_, .convert _ _ _, _, _, _, _⟩ _ _ _; first | refine Bi hG Y Y Y Y Y (by omega) ?_ | refine Bv hG Y Y Y Y Y ?_)
      | (show AOp _ _ ⟨_, .buildSlice _ _ _, _, _, _, _⟩ _ _ _; first | refine r_mk (sz := 1) hG Y Y Y Y Y Y Y ?_)
      | (show AOp _ _ ⟨_, .call ⟨.value _, _, _⟩, _, _, _, _⟩ _ _ _; first | (refine r_owns Y Y Y Y Y (by apply num_Put <;> (first | assumption | omega | exact Aa _ _ | exact Ae _ | exact Ad _ _ | exact Al _ | rfl | (simp; omega))) (fun k => ?_)) | (have := kk; clear this; refine A6 Y Y Y Y Y (Owns.pure (by apply num_Put <;> (first | assumption | omega | exact Aa _ _ | exact Ae _ | exact Ad _ _ | exact Al _ | rfl | (simp; omega)))) ?_) | fail)
      | refine r_q hG Y Y Y ?_))
    | (show AL _ _ _ _ _ _ _ _; first | refine Be Y Y Y ?_ | (refine Ar ?_; first | show AW _ _ _ _ _ _ | show ∃ x', _ < _ ∧ _)) | (show AW _ _ (.seq _ _) _ _ _; refine Ah ?_; intro Q1) | (show AW _ _ (.region _ _ false) _ _ _; refine Ac ?_; intro O1) | (show AW _ _ (.ret) _ _ _; refine Aq ?_; try dsimp only [A1, Ab, A0, Af]) | fail)
  refine Ag rfl (r_owns rfl rfl rfl rfl rfl (concat_b (bs := [b ++ putI s.length 2, s]) ?_ ?_ ?_) (fun k => ?_))
  · simp only [lettersT, lettersOf, Aa, Ae]
  · simp [total]; omega
  · simp
  repeat' (first
    | ((show AL _ _ _ _ _ _ _ _; refine Ag Y ?_); (first
      | (show AOp _ _ ⟨_, .move _, _, _, _, _⟩ _ _ _; refine Ap hG Y Y ?_)
      | (show AOp _ _ ⟨_, .assign _, _, _, _, _⟩ _ _ _; refine A2 hG Y Y ?_)
      | (show AOp _ _ ⟨_, .call ⟨.builtin .len, _, _⟩, _, _, _, _⟩ _ _ _; first | refine Ax hG Y Y Y Y ?_ | refine A7 hG Y Y Y Y Y ?_)
      | (show AOp _ _ ⟨_, .convert _ _ _, _, _, _, _⟩ _ _ _; first | refine Bi hG Y Y Y Y Y (by omega) ?_ | refine Bv hG Y Y Y Y Y ?_)
      | (show AOp _ _ ⟨_, .buildSlice _ _ _, _, _, _, _⟩ _ _ _; first | refine r_mk (sz := 1) hG Y Y Y Y Y Y Y ?_)
      | refine r_q hG Y Y Y ?_))
    | (show AL _ _ _ _ _ _ _ _; first | refine Be Y Y Y ?_ | (refine Ar ?_; first | show AW _ _ _ _ _ _ | show ∃ x', _ < _ ∧ _)) | (show AW _ _ (.seq _ _) _ _ _; refine Ah ?_; intro Q1) | (show AW _ _ (.region _ _ false) _ _ _; refine Ac ?_; intro O1) | (show AW _ _ (.ret) _ _ _; refine Aq ?_; try dsimp only [A1, Ab, A0, Af]) | fail)
  exact ret_owns 0 (Aw rfl Ay) rfl (by simp [putBs]) rfl
end Go.Proofs.Ytemgmkoggnjgjaa
namespace Go.Proofs.Ytemgmkoggnjgjaa
open Go.Ts
attribute [local irreducible] Go.Ts.AW Go.Ts.AOps Go.Ts.AL Go.Ts.AOp Go.Ts.ACalls Go.Ts.DL
def takeBE (b : List UInt8) : List UInt8 × Nat × Int :=
  if b.length < 2 then ([], 0, 3) else if b.length - 2 < beV (b.take 2) then ([], 0, 3) else ((b.take (2 + beV (b.take 2))).drop 2, 2 + beV (b.take 2), 0)
structure RefX (n : Nat) where
  i : Nat
  k : Nat
  hi : i ≤ n
theorem be_get (v : Nat) : ∀ (n i : Nat), i < n → (be v n)[i]? = some (UInt8.ofNat (v / 2 ^ (8 * (n - 1 - i))))
  | 0, i, h => by omega
  | n + 1, 0, h => by simp [be]
  | n + 1, i + 1, h => by
    simp only [be, List.getElem?_cons_succ]
    rw [be_get v n i (by omega)]
    congr 4; omega
theorem ref_Put {x : T} {b : List UInt8} {v n : Int} (hx : bytesT x = some b) (hl : b.length ≤ 4294967000) (hv : 0 ≤ v) :
    Owns Try.prog 32 [x, .int .u64 v, .int .i64 n] 1 ((b ++ putI v n).map bT) := by
  refine Owns.weak (us := [sT b, .int .u64 v, .int .i64 n]) ?_ (wk3 (bytesT_wk hx) (.refl _) (.refl _))
  intro off
  refine Bd (N := 36) (rs := [.tmp 6]) hG Try.func32 rfl rfl rfl rfl rfl ?_
  repeat' (first
    | ((show AL _ _ _ _ _ _ _ _; refine Ag Y ?_); (first
      | (show AOp _ _ ⟨_, .move _, _, _, _, _⟩ _ _ _; refine Ap hG Y Y ?_)
      | (show AOp _ _ ⟨_, .assign _, _, _, _, _⟩ _ _ _; refine A2 hG Y Y ?_)
      | (show AOp _ _ ⟨_, .binOp .add _ _ _ _, _, _, _, _⟩ _ _ _; first | refine Aj hG Y Y Y Y Y (by omega) ?_)
      | (show AOp _ _ ⟨_, .binOp .sub _ _ _ _, _, _, _, _⟩ _ _ _; first | refine Aj hG Y Y Y Y Y (by omega) ?_)
      | (show AOp _ _ ⟨_, .binOp .mul _ _ _ _, _, _, _, _⟩ _ _ _; first | refine Aj hG Y Y Y Y Y (by omega) ?_)
      | (show AOp _ _ ⟨_, .binOp .shr _ _ _ _, _, _, _, _⟩ _ _ _; refine r_shr hG Y Y Y Y (by omega) ?_)
      | (show AOp _ _ ⟨_, .binOp _ _ _ _ _, _, _, _, _⟩ _ _ _; first | refine Au hG Y Y Y Y Y (by omega) ?_ | refine As hG Y Y Y Y Y (by omega) ?_ | (refine Av hG Y Y Y Y Y (fun h => ?_) (fun h => ?_)))
      | (show AOp _ _ ⟨_, .convert _ _ _, _, _, _, _⟩ _ _ _; first | refine By hG Y Y Y Y Y (by omega) ?_ | refine Bv hG Y Y Y Y Y ?_)
      | (show AOp _ _ ⟨_, .pick _ _ _, _, _, _, _⟩ _ _ _; refine Bf hG Y Y Y ?_)
      | (show AOp _ _ ⟨_, .buildSlice _ _ _, _, _, _, _⟩ _ _ _; first | refine r_mk (sz := 1) hG Y Y Y Y Y Y Y ?_)
      | (show AOp _ _ ⟨_, .call ⟨.builtin .append, _, _⟩, _, _, _, _⟩ _ _ _; first | refine Bg (sz := 1) (xs := []) hG Y Y Y Y Y Y Y ⟨_, Y⟩ Y Y Y Y Y Y Y (by first | omega | (simp; omega)) (fun k => ?_) | refine Bm 0 hG Y Y Y Y Y Y Y ⟨_, Y⟩ Y Y Y Y Y (by first | omega | (simp only [List.length_append, List.length_cons, List.length_nil]; omega)) (fun k => ?_) | fail)
      | refine r_q hG Y Y Y ?_))
    | (show AL _ _ _ _ _ _ _ _; first | refine Be Y Y Y ?_ | (refine Ar ?_; first | show AW _ _ _ _ _ _ | show ∃ x', _ < _ ∧ _)) | (show AW _ _ (.seq _ _) _ _ _; refine Ah ?_; intro Q1) | (show AW _ _ (.region _ _ false) _ _ _; refine Ac ?_; intro O1) | (show AW _ _ (.cond _ _ _) _ _ _; first | refine Am Y ?_ | refine Ao Y ?_) | (show AW _ _ (.skip) _ _ _; refine Ak ?_; first | show AW _ _ _ _ _ _ | show ∃ x', _ < _ ∧ _) | (show AW _ _ (.block _ _) _ _ _; refine Ai ?_; intro Q1) | (show AW _ _ (.exit _) _ _ _; refine A5 ?_; first | show AW _ _ _ _ _ _ | show ∃ x', _ < _ ∧ _) | (show AW _ _ (.ret) _ _ _; refine Aq ?_; try dsimp only [A1, Ab, A0, Af]) | fail)
  · exact ret_owns 0 (Aw rfl Ay) rfl (by rw [putI, if_neg (by omega), List.append_nil]; rfl) rfl
  · exact ret_owns 0 (Aw rfl Ay) rfl (by rw [putI, if_neg (by omega), List.append_nil]; rfl) rfl
  have hn : 0 ≤ n ∧ n ≤ 8 := by omega
  obtain ⟨m, rfl⟩ := Int.eq_ofNat_of_zero_le hn.1
  obtain ⟨v, rfl⟩ := Int.eq_ofNat_of_zero_le hv
  refine aw_loop (X := RefX m) (fun x => [(1, .int .u64 v), (2, .int .i64 m), (7, .sl 1 (.tok x.k) ((b ++ (be v m).take x.i).map bT)), (8, .int .i64 x.i)]) (fun x => ⟨[], [x.k], off, none⟩) (fun x => m - x.i) ⟨0, _, by omega⟩ ?_ (.refl _) ?_
  · exact .cons rfl (.cons rfl (.consW rfl (.eq (by simp)) (.consW rfl (.int rfl) (.nil _))))
  rintro ⟨i, k, hi⟩
  dsimp only
  have hbl := be_length v m
  have htl : ((be v m).take i).length = i := by rw [List.length_take]; omega
  repeat' (first
    | ((show AL _ _ _ _ _ _ _ _; refine Ag Y ?_); (first
      | (show AOp _ _ ⟨_, .move _, _, _, _, _⟩ _ _ _; refine Ap hG Y Y ?_)
      | (show AOp _ _ ⟨_, .assign _, _, _, _, _⟩ _ _ _; refine A2 hG Y Y ?_)
      | (show AOp _ _ ⟨_, .binOp .add _ _ _ _, _, _, _, _⟩ _ _ _; first | refine Aj hG Y Y Y Y Y (by omega) ?_)
      | (show AOp _ _ ⟨_, .binOp .sub _ _ _ _, _, _, _, _⟩ _ _ _; first | refine Aj hG Y Y Y Y Y (by omega) ?_)
      | (show AOp _ _ ⟨_, .binOp .mul _ _ _ _, _, _, _, _⟩ _ _ _; first | refine Aj hG Y Y Y Y Y (by omega) ?_)
      | (show AOp _ _ ⟨_, .binOp .shr _ _ _ _, _, _, _, _⟩ _ _ _; refine r_shr hG Y Y Y Y (by omega) ?_)
      | (show AOp _ _ ⟨_, .binOp _ _ _ _ _, _, _, _, _⟩ _ _ _; first | refine Au hG Y Y Y Y Y (by omega) ?_ | refine As hG Y Y Y Y Y (by omega) ?_ | (refine Av hG Y Y Y Y Y (fun h => ?_) (fun h => ?_)))
      | (show AOp _ _ ⟨_, .convert _ _ _, _, _, _, _⟩ _ _ _; first | refine By hG Y Y Y Y Y (by omega) ?_ | refine Bv hG Y Y Y Y Y ?_)
      | (show AOp _ _ ⟨_, .pick _ _ _, _, _, _, _⟩ _ _ _; refine Bf hG Y Y Y ?_)
      | (show AOp _ _ ⟨_, .buildSlice _ _ _, _, _, _, _⟩ _ _ _; first | refine r_mk (sz := 1) hG Y Y Y Y Y Y Y ?_)
      | (show AOp _ _ ⟨_, .call ⟨.builtin .append, _, _⟩, _, _, _, _⟩ _ _ _; first | refine Bg (sz := 1) (xs := []) hG Y Y Y Y Y Y Y ⟨_, Y⟩ Y Y Y Y Y Y Y (by first | omega | (simp; omega)) (fun k => ?_) | refine Bm 0 hG Y Y Y Y Y Y Y ⟨_, Y⟩ Y Y Y Y Y (by first | omega | (simp only [List.length_append, List.length_cons, List.length_nil]; omega)) (fun k => ?_) | fail)
      | refine r_q hG Y Y Y ?_))
    | (show AL _ _ _ _ _ _ _ _; first | refine Be Y Y Y ?_ | (refine Ar ?_; first | show AW _ _ _ _ _ _ | show ∃ x', _ < _ ∧ _)) | (show AW _ _ (.seq _ _) _ _ _; refine Ah ?_; intro Q1) | (show AW _ _ (.region _ _ false) _ _ _; refine Ac ?_; intro O1) | (show AW _ _ (.cond _ _ _) _ _ _; first | refine Am Y ?_ | refine Ao Y ?_) | (show AW _ _ (.skip) _ _ _; refine Ak ?_; first | show AW _ _ _ _ _ _ | show ∃ x', _ < _ ∧ _) | (show AW _ _ (.block _ _) _ _ _; refine Ai ?_; intro Q1) | (show AW _ _ (.exit _) _ _ _; refine A5 ?_; first | show AW _ _ _ _ _ _ | show ∃ x', _ < _ ∧ _) | (show AW _ _ (.ret) _ _ _; refine Aq ?_; try dsimp only [A1, Ab, A0, Af]) | fail)
  · have hbyte : T.int IntKind.u8 (IntKind.u8.wrap ((v : Int) / 2 ^ (min (8 * ((m : Int) - 1 - (i : Int))).toNat IntKind.u64.bits))) = bT (UInt8.ofNat (v / 2 ^ (8 * (m - 1 - i)))) := by
      have : min (8 * ((m : Int) - 1 - (i : Int))).toNat IntKind.u64.bits = 8 * (m - 1 - i) := by simp only [IntKind.bits]; omega
      rw [this]
      exact bT_of _ _ (by simp)
    refine Ag rfl (Bm 0 (ys := [UInt8.ofNat (v / 2 ^ (8 * (m - 1 - i)))]) hG rfl rfl rfl rfl rfl rfl rfl ⟨_, rfl⟩ rfl rfl rfl rfl (congrArg (fun t => [t]) hbyte) (by rw [List.length_append, htl]; simp; omega) (fun k' => ?_))
    repeat' (first
    | ((show AL _ _ _ _ _ _ _ _; refine Ag Y ?_); (first
      | (show AOp _ _ ⟨_, .move _, _, _, _, _⟩ _ _ _; refine Ap hG Y Y ?_)
      | (show AOp _ _ ⟨_, .assign _, _, _, _, _⟩ _ _ _; refine A2 hG Y Y ?_)
      | (show AOp _ _ ⟨_, .binOp .add _ _ _ _, _, _, _, _⟩ _ _ _; first | refine Aj hG Y Y Y Y Y (by omega) ?_)
      | (show AOp _ _ ⟨_, .binOp .sub _ _ _ _, _, _, _, _⟩ _ _ _; first | refine Aj hG Y Y Y Y Y (by omega) ?_)
      | (show AOp _ _ ⟨_, .binOp .mul _ _ _ _, _, _, _, _⟩ _ _ _; first | refine Aj hG Y Y Y Y Y (by omega) ?_)
      | (show AOp _ _ ⟨_, .binOp .shr _ _ _ _, _, _, _, _⟩ _ _ _; refine r_shr hG Y Y Y Y (by omega) ?_)
      | (show AOp _ _ ⟨_, .binOp _ _ _ _ _, _, _, _, _⟩ _ _ _; first | refine Au hG Y Y Y Y Y (by omega) ?_ | refine As hG Y Y Y Y Y (by omega) ?_ | (refine Av hG Y Y Y Y Y (fun h => ?_) (fun h => ?_)))
      | (show AOp _ _ ⟨_, .convert _ _ _, _, _, _, _⟩ _ _ _; first | refine By hG Y Y Y Y Y (by omega) ?_ | refine Bv hG Y Y Y Y Y ?_)
      | (show AOp _ _ ⟨_, .pick _ _ _, _, _, _, _⟩ _ _ _; refine Bf hG Y Y Y ?_)
      | (show AOp _ _ ⟨_, .buildSlice _ _ _, _, _, _, _⟩ _ _ _; first | refine r_mk (sz := 1) hG Y Y Y Y Y Y Y ?_)
      | (show AOp _ _ ⟨_, .call ⟨.builtin .append, _, _⟩, _, _, _, _⟩ _ _ _; first | refine Bg (sz := 1) (xs := []) hG Y Y Y Y Y Y Y ⟨_, Y⟩ Y Y Y Y Y Y Y (by first | omega | (simp; omega)) (fun k => ?_) | refine Bm 0 hG Y Y Y Y Y Y Y ⟨_, Y⟩ Y Y Y Y Y (by first | omega | (simp only [List.length_append, List.length_cons, List.length_nil]; omega)) (fun k => ?_) | fail)
      | refine r_q hG Y Y Y ?_))
    | (show AL _ _ _ _ _ _ _ _; first | refine Be Y Y Y ?_ | (refine Ar ?_; first | show AW _ _ _ _ _ _ | show ∃ x', _ < _ ∧ _)) | (show AW _ _ (.seq _ _) _ _ _; refine Ah ?_; intro Q1) | (show AW _ _ (.region _ _ false) _ _ _; refine Ac ?_; intro O1) | (show AW _ _ (.cond _ _ _) _ _ _; first | refine Am Y ?_ | refine Ao Y ?_) | (show AW _ _ (.skip) _ _ _; refine Ak ?_; first | show AW _ _ _ _ _ _ | show ∃ x', _ < _ ∧ _) | (show AW _ _ (.block _ _) _ _ _; refine Ai ?_; intro Q1) | (show AW _ _ (.exit _) _ _ _; refine A5 ?_; first | show AW _ _ _ _ _ _ | show ∃ x', _ < _ ∧ _) | (show AW _ _ (.ret) _ _ _; refine Aq ?_; try dsimp only [A1, Ab, A0, Af]) | fail)
    refine ⟨⟨i + 1, k', by omega⟩, by dsimp only; omega, ?_, .refl _⟩
    refine .cons rfl (.cons rfl (.consW rfl (.eq ?_) (.consW rfl (.int (by simp)) (.nil _))))
    have hg := be_get v m i (by omega)
    rw [List.getElem?_eq_getElem (by omega)] at hg
    injection hg with hg
    rw [List.take_succ_eq_append_getElem (by omega), hg]
    simp
  · obtain rfl : i = m := by omega
    exact ret_owns 0 (Aw rfl Ay) rfl (by rw [putI, if_pos hn, List.take_of_length_le (by omega)]; simp) rfl

theorem ref_PutBytes {x y : T} {b s : List UInt8} (hx : bytesT x = some b) (hy : bytesT y = some s) (hl : b.length ≤ 4294880000) (hs : s.length ≤ 70000) :
    Owns Try.prog 49 [x, y] 1 ((putBs b s).map bT) := by
  refine Owns.weak (us := [sT b, sT s]) ?_ (wk2 (bytesT_wk hx) (bytesT_wk hy))
  intro off
  refine Bd (N := 12) (rs := [.tmp 4]) hG Try.func49 rfl rfl rfl rfl rfl ?_
  have hpl := putI_le s.length 2
  repeat' (first
    | ((show AL _ _ _ _ _ _ _ _; refine Ag Y ?_); (first
      | (show AOp _ _ ⟨_, .move _, _, _, _, _⟩ _ _ _; refine Ap hG Y Y ?_)
      | (show AOp _ _ ⟨_, .assign _, _, _, _, _⟩ _ _ _; refine A2 hG Y Y ?_)
      | (show AOp _ _ ⟨_, .call ⟨.builtin .len, _, _⟩, _, _, _, _⟩ _ _ _; first | refine Ax hG Y Y Y Y ?_ | refine A7 hG Y Y Y Y Y ?_)
      | (show AOp _ _ ⟨_, .convert _ _ _, _, _, _, _⟩ _ _ _; first | refine Bi hG Y Y Y Y Y (by omega) ?_ | refine Bv hG Y Y Y Y Y ?_)
      | (show AOp _ _ ⟨_, .call ⟨.builtin .append, _, _⟩, _, _, _, _⟩ _ _ _; first | refine Bg (sz := 1) (xs := []) hG Y Y Y Y Y Y Y ⟨_, Y⟩ Y Y Y Y Y Y Y (by first | omega | (simp; omega)) (fun k => ?_) | refine Bm 0 hG Y Y Y Y Y Y Y ⟨_, Y⟩ Y Y Y Y Y (by first | omega | (simp only [List.length_append, List.length_cons, List.length_nil]; omega)) (fun k => ?_) | fail)
      | (show AOp _ _ ⟨_, .call ⟨.value _, _, _⟩, _, _, _, _⟩ _ _ _; first | (refine r_owns Y Y Y Y Y (by apply ref_Put <;> (first | assumption | omega | exact Aa _ _ | exact Ae _ | exact Ad _ _ | exact Al _ | rfl | (simp; omega))) (fun k => ?_)) | (have := kk; clear this; refine A6 Y Y Y Y Y (Owns.pure (by apply ref_Put <;> (first | assumption | omega | exact Aa _ _ | exact Ae _ | exact Ad _ _ | exact Al _ | rfl | (simp; omega)))) ?_) | fail)
      | refine r_q hG Y Y Y ?_))
    | (show AL _ _ _ _ _ _ _ _; first | refine Be Y Y Y ?_ | (refine Ar ?_; first | show AW _ _ _ _ _ _ | show ∃ x', _ < _ ∧ _)) | (show AW _ _ (.seq _ _) _ _ _; refine Ah ?_; intro Q1) | (show AW _ _ (.region _ _ false) _ _ _; refine Ac ?_; intro O1) | (show AW _ _ (.ret) _ _ _; refine Aq ?_; try dsimp only [A1, Ab, A0, Af]) | fail)
  exact ret_owns 0 (Aw rfl Ay) rfl (by simp [putBs]) rfl

end Go.Proofs.Ytemgmkoggnjgjaa
namespace Go.Sets
set_option linter.unusedSimpArgs false
set_option linter.unusedVariables false
abbrev C := UInt16

theorem lt_irrefl (x : C) : ¬ x < x := by simp [UInt16.lt_iff_toNat_lt]
def risesB : List C → Bool
  | x :: y :: r => decide (x < y) && risesB (y :: r)
  | _ => true
def ins (x : C) : List C → List C
  | [] => [x]
  | y :: l => if x < y then x :: y :: l else if x = y then y :: l else y :: ins x l
def mk (l : List C) : List C := l.foldl (fun acc x => ins x acc) []
end Go.Sets
namespace Go.Proofs.Ytemgmkoggnjgjaa
open Go.Ts Go.Sets
attribute [local irreducible] Go.Ts.AW Go.Ts.AOps Go.Ts.AL Go.Ts.AOp Go.Ts.ACalls Go.Ts.DL
theorem drop_tok {k : Nat} {R' : List Nat} {off : Nat → Nat → Prop} : Go.Ts.GStep ⟨[], k :: R', off, none⟩ ⟨[], [k], off, none⟩ :=
  keep_step (σ := ⟨[], k :: R', off, none⟩) (List.Sublist.refl _) (List.singleton_sublist.2 (by simp))
theorem rises_adj : ∀ l : List UInt16, risesB l = true ↔ ∀ j, j + 1 < l.length → l.getD j default < l.getD (j + 1) default
  | [] => by simp [risesB]
  | [x] => by simp [risesB]
  | x :: y :: r => by
    rw [risesB, Bool.and_eq_true, decide_eq_true_eq, rises_adj (y :: r)]
    constructor
    · rintro ⟨h1, h2⟩ j hj
      cases j with
      | zero => simpa using h1
      | succ j => have := h2 j (by simp at hj ⊢; omega); simpa using this
    · intro h
      refine ⟨by have := h 0 (by simp); simpa using this, fun j hj => ?_⟩
      have := h (j + 1) (by simp at hj ⊢; omega); simpa using this

structure RiX (a : List UInt16) where
  i : Nat
  hi : 1 ≤ i
  hp : ∀ j, j + 1 < i → j + 1 < a.length → a.getD j default < a.getD (j + 1) default
theorem cats_rises {x : T} {a : List UInt16} (hx : catsT x = some a) (hl : a.length ≤ 140737488351232) : Pure Try.prog 67 [x] (.bool (risesB a)) := by
  refine Pure.weak (us := [cT a]) ?_ (wk1 (catsT_wk hx))
  intro off
  refine Bd (N := 20) (rs := [.tmp 2]) hG Try.func67 rfl rfl rfl rfl rfl ?_
  repeat' (first
    | ((first | (show AL _ _ _ _ _ _ _ _; refine Ag Y ?_) | (show DL _ _ _ _ _ _ _; refine' Bo Y Y (fun K kk => ?_) ?_; try (show Go.Ts.T; rotate_left))); (first
      | (show AOp _ _ ⟨_, .move _, _, _, _, _⟩ _ _ _; refine Ap hG Y Y ?_)
      | (show AOp _ _ ⟨_, .assign _, _, _, _, _⟩ _ _ _; refine A2 hG Y Y ?_)
      | (show AOp _ _ ⟨_, .call ⟨.builtin .len, _, _⟩, _, _, _, _⟩ _ _ _; first | refine Ax hG Y Y Y Y ?_ | refine A7 hG Y Y Y Y Y ?_)
      | (show AOp _ _ ⟨_, .binOp .add _ _ _ _, _, _, _, _⟩ _ _ _; first | refine Aj hG Y Y Y Y Y (by omega) ?_)
      | (show AOp _ _ ⟨_, .binOp .sub _ _ _ _, _, _, _, _⟩ _ _ _; first | refine Aj hG Y Y Y Y Y (by omega) ?_)
      | (show AOp _ _ ⟨_, .binOp _ _ _ _ _, _, _, _, _⟩ _ _ _; first | refine Au hG Y Y Y Y Y (by omega) ?_ | refine As hG Y Y Y Y Y (by omega) ?_ | ((fail_if_success have := kk); refine Av hG Y Y Y Y Y (fun h => ?_) (fun h => ?_)))
      | (show AOp _ _ ⟨_, .load _ _, _, _, _, _⟩ _ _ _; first | refine A9 hG Y Y Y ?_ | refine A4 0 hG Y Y Y Y ?_)
      | (show AOp _ _ ⟨_, .indexAddr _ _ _, _, _, _, _⟩ _ _ _; first | refine A8 hG Y Y Y Y Y Y Y (by omega) ?_ | refine Ba hG Y Y Y Y Y Y Y (by omega) ?_ | refine Bj hG Y Y ?_)
      | refine r_q hG Y Y Y ?_); try exact kk)
    | (show AL _ _ _ _ _ _ _ _; first | refine Be Y Y Y ?_ | (refine Ar ?_; first | show AW _ _ _ _ _ _ | show ∃ x', _ < _ ∧ _)) | (show AW _ _ (.seq _ _) _ _ _; refine Ah ?_; intro Q1) | (show AW _ _ (.region _ _ false) _ _ _; refine Ac ?_; intro O1) | (show AW _ _ (.cond _ _ _) _ _ _; first | refine Am Y ?_ | refine Ao Y ?_) | (show AW _ _ (.skip) _ _ _; refine Ak ?_; first | show AW _ _ _ _ _ _ | show ∃ x', _ < _ ∧ _) | (show AW _ _ (.goto _) _ _ _; refine aw_goto ?_; try dsimp only [A1, Ab, A0, Af]) | (show AW _ _ (.ret) _ _ _; refine Aq ?_; try dsimp only [A1, Ab, A0, Af])
    | (show DL _ _ _ _ _ _ _; refine dl_d Y Y (fun K kt kf => Av hG Y Y Y Y Y kt kf) (fun h => ?_) (fun h => ?_))
    | (show DL _ _ _ _ _ _ _; refine dl_s Y Y Y ?_) | (show DL _ _ _ _ _ _ _; refine Bt ?_; first | show AW _ _ _ _ _ _ | show ∃ x', _ < _ ∧ _) | (show AW _ _ (.region _ _ true) _ _ _; refine Bh mix (by kernel_rfl) ?_; intro O1) | fail)
  refine aw_scope' 0 rfl (X := RiX a) (fun x => [(0, cT a), (3, .int .i64 x.i)]) (fun x => ⟨[], [], off, none⟩) (fun x => a.length - x.i) ?_ ?_
  · rintro ⟨i, hi, hp⟩
    dsimp only
    obtain ⟨i, rfl⟩ : ∃ j, i = j + 1 := ⟨i - 1, by omega⟩
    by_cases hib : i + 1 < a.length
    · have e : (((i + 1 : Nat) : Int) - 1).toNat = i := by omega
      repeat' (first
    | ((first | (show AL _ _ _ _ _ _ _ _; refine Ag Y ?_) | (show DL _ _ _ _ _ _ _; refine' Bo Y Y (fun K kk => ?_) ?_; try (show Go.Ts.T; rotate_left))); (first
      | (show AOp _ _ ⟨_, .move _, _, _, _, _⟩ _ _ _; refine Ap hG Y Y ?_)
      | (show AOp _ _ ⟨_, .assign _, _, _, _, _⟩ _ _ _; refine A2 hG Y Y ?_)
      | (show AOp _ _ ⟨_, .call ⟨.builtin .len, _, _⟩, _, _, _, _⟩ _ _ _; first | refine Ax hG Y Y Y Y ?_ | refine A7 hG Y Y Y Y Y ?_)
      | (show AOp _ _ ⟨_, .binOp .add _ _ _ _, _, _, _, _⟩ _ _ _; first | refine Aj hG Y Y Y Y Y (by omega) ?_)
      | (show AOp _ _ ⟨_, .binOp .sub _ _ _ _, _, _, _, _⟩ _ _ _; first | refine Aj hG Y Y Y Y Y (by omega) ?_)
      | (show AOp _ _ ⟨_, .binOp _ _ _ _ _, _, _, _, _⟩ _ _ _; first | refine Au hG Y Y Y Y Y (by omega) ?_ | refine As hG Y Y Y Y Y (by omega) ?_ | ((fail_if_success have := kk); refine Av hG Y Y Y Y Y (fun h => ?_) (fun h => ?_)))
      | (show AOp _ _ ⟨_, .load _ _, _, _, _, _⟩ _ _ _; first | refine A9 hG Y Y Y ?_ | refine A4 0 hG Y Y Y Y ?_)
      | (show AOp _ _ ⟨_, .indexAddr _ _ _, _, _, _, _⟩ _ _ _; first | refine A8 hG Y Y Y Y Y Y Y (by omega) ?_ | refine Ba hG Y Y Y Y Y Y Y (by omega) ?_ | refine Bj hG Y Y ?_)
      | refine r_q hG Y Y Y ?_); try exact kk)
    | (show AL _ _ _ _ _ _ _ _; first | refine Be Y Y Y ?_ | (refine Ar ?_; first | show AW _ _ _ _ _ _ | show ∃ x', _ < _ ∧ _)) | (show AW _ _ (.seq _ _) _ _ _; refine Ah ?_; intro Q1) | (show AW _ _ (.region _ _ false) _ _ _; refine Ac ?_; intro O1) | (show AW _ _ (.cond _ _ _) _ _ _; first | refine Am Y ?_ | refine Ao Y ?_) | (show AW _ _ (.skip) _ _ _; refine Ak ?_; first | show AW _ _ _ _ _ _ | show ∃ x', _ < _ ∧ _) | (show AW _ _ (.goto _) _ _ _; refine aw_goto ?_; try dsimp only [A1, Ab, A0, Af]) | (show AW _ _ (.ret) _ _ _; refine Aq ?_; try dsimp only [A1, Ab, A0, Af])
    | (show DL _ _ _ _ _ _ _; refine dl_d Y Y (fun K kt kf => Av hG Y Y Y Y Y kt kf) (fun h => ?_) (fun h => ?_))
    | (show DL _ _ _ _ _ _ _; refine dl_s Y Y Y ?_) | (show DL _ _ _ _ _ _ _; refine Bt ?_; first | show AW _ _ _ _ _ _ | show ∃ x', _ < _ ∧ _) | (show AW _ _ (.region _ _ true) _ _ _; refine Bh mix (by kernel_rfl) ?_; intro O1) | fail)
      · rw [e] at h
        refine Az (Aw rfl Ay) (.eq ?_) rfl
        have : risesB a = false := Bool.eq_false_iff.2 fun hr => by
          have := (rises_adj a).1 hr i hib
          rw [UInt16.lt_iff_toNat_lt] at this; omega
        rw [this]; rfl
      · rw [e] at h
        refine ⟨rfl, ⟨i + 2, by omega, fun j h1 h2 => ?_⟩, by dsimp only; omega, ?_, .refl _⟩
        · by_cases hj : j + 1 < i + 1
          · exact hp j hj h2
          · obtain rfl : j = i := by omega
            rw [UInt16.lt_iff_toNat_lt]; omega
        · exact .cons rfl (.consW rfl (.int (by simp; omega)) (.nil _))
    · repeat' (first
    | ((first | (show AL _ _ _ _ _ _ _ _; refine Ag Y ?_) | (show DL _ _ _ _ _ _ _; refine' Bo Y Y (fun K kk => ?_) ?_; try (show Go.Ts.T; rotate_left))); (first
      | (show AOp _ _ ⟨_, .move _, _, _, _, _⟩ _ _ _; refine Ap hG Y Y ?_)
      | (show AOp _ _ ⟨_, .assign _, _, _, _, _⟩ _ _ _; refine A2 hG Y Y ?_)
      | (show AOp _ _ ⟨_, .call ⟨.builtin .len, _, _⟩, _, _, _, _⟩ _ _ _; first | refine Ax hG Y Y Y Y ?_ | refine A7 hG Y Y Y Y Y ?_)
      | (show AOp _ _ ⟨_, .binOp .add _ _ _ _, _, _, _, _⟩ _ _ _; first | refine Aj hG Y Y Y Y Y (by omega) ?_)
      | (show AOp _ _ ⟨_, .binOp .sub _ _ _ _, _, _, _, _⟩ _ _ _; first | refine Aj hG Y Y Y Y Y (by omega) ?_)
      | (show AOp _ _ ⟨_, .binOp _ _ _ _ _, _, _, _, _⟩ _ _ _; first | refine Au hG Y Y Y Y Y (by omega) ?_ | refine As hG Y Y Y Y Y (by omega) ?_ | ((fail_if_success have := kk); refine Av hG Y Y Y Y Y (fun h => ?_) (fun h => ?_)))
      | (show AOp _ _ ⟨_, .load _ _, _, _, _, _⟩ _ _ _; first | refine A9 hG Y Y Y ?_ | refine A4 0 hG Y Y Y Y ?_)
      | (show AOp _ _ ⟨_, .indexAddr _ _ _, _, _, _, _⟩ _ _ _; first | refine A8 hG Y Y Y Y Y Y Y (by omega) ?_ | refine Ba hG Y Y Y Y Y Y Y (by omega) ?_ | refine Bj hG Y Y ?_)
      | refine r_q hG Y Y Y ?_); try exact kk)
    | (show AL _ _ _ _ _ _ _ _; first | refine Be Y Y Y ?_ | (refine Ar ?_; first | show AW _ _ _ _ _ _ | show ∃ x', _ < _ ∧ _)) | (show AW _ _ (.seq _ _) _ _ _; refine Ah ?_; intro Q1) | (show AW _ _ (.region _ _ false) _ _ _; refine Ac ?_; intro O1) | (show AW _ _ (.cond _ _ _) _ _ _; first | refine Am Y ?_ | refine Ao Y ?_) | (show AW _ _ (.skip) _ _ _; refine Ak ?_; first | show AW _ _ _ _ _ _ | show ∃ x', _ < _ ∧ _) | (show AW _ _ (.goto _) _ _ _; refine aw_goto ?_; try dsimp only [A1, Ab, A0, Af]) | (show AW _ _ (.ret) _ _ _; refine Aq ?_; try dsimp only [A1, Ab, A0, Af])
    | (show DL _ _ _ _ _ _ _; refine dl_d Y Y (fun K kt kf => Av hG Y Y Y Y Y kt kf) (fun h => ?_) (fun h => ?_))
    | (show DL _ _ _ _ _ _ _; refine dl_s Y Y Y ?_) | (show DL _ _ _ _ _ _ _; refine Bt ?_; first | show AW _ _ _ _ _ _ | show ∃ x', _ < _ ∧ _) | (show AW _ _ (.region _ _ true) _ _ _; refine Bh mix (by kernel_rfl) ?_; intro O1) | fail)
      refine Az (Aw rfl Ay) (.eq ?_) rfl
      have : risesB a = true := (rises_adj a).2 fun j hj => hp j (by omega) hj
      rw [this]; rfl
  · intro key
    repeat' (first
    | ((first | (show AL _ _ _ _ _ _ _ _; refine Ag Y ?_) | (show DL _ _ _ _ _ _ _; refine' Bo Y Y (fun K kk => ?_) ?_; try (show Go.Ts.T; rotate_left))); (first
      | (show AOp _ _ ⟨_, .move _, _, _, _, _⟩ _ _ _; refine Ap hG Y Y ?_)
      | (show AOp _ _ ⟨_, .assign _, _, _, _, _⟩ _ _ _; refine A2 hG Y Y ?_)
      | (show AOp _ _ ⟨_, .call ⟨.builtin .len, _, _⟩, _, _, _, _⟩ _ _ _; first | refine Ax hG Y Y Y Y ?_ | refine A7 hG Y Y Y Y Y ?_)
      | (show AOp _ _ ⟨_, .binOp .add _ _ _ _, _, _, _, _⟩ _ _ _; first | refine Aj hG Y Y Y Y Y (by omega) ?_)
      | (show AOp _ _ ⟨_, .binOp .sub _ _ _ _, _, _, _, _⟩ _ _ _; first | refine Aj hG Y Y Y Y Y (by omega) ?_)
      | (show AOp _ _ ⟨_, .binOp _ _ _ _ _, _, _, _, _⟩ _ _ _; first | refine Au hG Y Y Y Y Y (by omega) ?_ | refine As hG Y Y Y Y Y (by omega) ?_ | ((fail_if_success have := kk); refine Av hG Y Y Y Y Y (fun h => ?_) (fun h => ?_)))
      | (show AOp _ _ ⟨_, .load _ _, _, _, _, _⟩ _ _ _; first | refine A9 hG Y Y Y ?_ | refine A4 0 hG Y Y Y Y ?_)
      | (show AOp _ _ ⟨_, .indexAddr _ _ _, _, _, _, _⟩ _ _ _; first | refine A8 hG Y Y Y Y Y Y Y (by omega) ?_ | refine Ba hG Y Y Y Y Y Y Y (by omega) ?_ | refine Bj hG Y Y ?_)
      | refine r_q hG Y Y Y ?_); try exact kk)
    | (show AL _ _ _ _ _ _ _ _; first | refine Be Y Y Y ?_ | (refine Ar ?_; first | show AW _ _ _ _ _ _ | show ∃ x', _ < _ ∧ _)) | (show AW _ _ (.seq _ _) _ _ _; refine Ah ?_; intro Q1) | (show AW _ _ (.region _ _ false) _ _ _; refine Ac ?_; intro O1) | (show AW _ _ (.cond _ _ _) _ _ _; first | refine Am Y ?_ | refine Ao Y ?_) | (show AW _ _ (.skip) _ _ _; refine Ak ?_; first | show AW _ _ _ _ _ _ | show ∃ x', _ < _ ∧ _) | (show AW _ _ (.goto _) _ _ _; refine aw_goto ?_; try dsimp only [A1, Ab, A0, Af]) | (show AW _ _ (.ret) _ _ _; refine Aq ?_; try dsimp only [A1, Ab, A0, Af])
    | (show DL _ _ _ _ _ _ _; refine dl_d Y Y (fun K kt kf => Av hG Y Y Y Y Y kt kf) (fun h => ?_) (fun h => ?_))
    | (show DL _ _ _ _ _ _ _; refine dl_s Y Y Y ?_) | (show DL _ _ _ _ _ _ _; refine Bt ?_; first | show AW _ _ _ _ _ _ | show ∃ x', _ < _ ∧ _) | (show AW _ _ (.region _ _ true) _ _ _; refine Bh mix (by kernel_rfl) ?_; intro O1) | fail)
    refine aw_label ?_
    show AW _ _ _ _ _ _
    refine aw_forget ?_ (key ⟨1, by omega, fun j h1 h2 => by omega⟩)
    exact .cons rfl (.consW rfl (.int rfl) (.nil _))
def mayC (a : List UInt16) : Bool := decide (a.length ≤ 16) && risesB a
theorem cats_May {x : T} {a : List UInt16} (hx : catsT x = some a) (hl : a.length ≤ 140737488351232) : Pure Try.prog 47 [x] (.bool (mayC a)) := by
  refine Pure.weak (us := [cT a]) ?_ (wk1 (catsT_wk hx))
  intro off
  refine Bd (N := 10) (rs := [.tmp 2]) hG Try.func47 rfl rfl rfl rfl rfl ?_
  by_cases h : a.length ≤ 16
  · repeat' (first
    | ((show AL _ _ _ _ _ _ _ _; refine Ag Y ?_); (first
      | (show AOp _ _ ⟨_, .move _, _, _, _, _⟩ _ _ _; refine Ap hG Y Y ?_)
      | (show AOp _ _ ⟨_, .assign _, _, _, _, _⟩ _ _ _; refine A2 hG Y Y ?_)
      | (show AOp _ _ ⟨_, .call ⟨.builtin .len, _, _⟩, _, _, _, _⟩ _ _ _; first | refine Ax hG Y Y Y Y ?_ | refine A7 hG Y Y Y Y Y ?_)
      | (show AOp _ _ ⟨_, .binOp _ _ _ _ _, _, _, _, _⟩ _ _ _; first | refine Au hG Y Y Y Y Y (by omega) ?_ | refine As hG Y Y Y Y Y (by omega) ?_ | (refine Av hG Y Y Y Y Y (fun h => ?_) (fun h => ?_)))
      | (show AOp _ _ ⟨_, .pick _ _ _, _, _, _, _⟩ _ _ _; refine Bf hG Y Y Y ?_)
      | (show AOp _ _ ⟨_, .call ⟨.value _, _, _⟩, _, _, _, _⟩ _ _ _; first | refine A6 Y Y Y Y Y (by apply cats_rises <;> (first | assumption | omega | exact Aa _ _ | exact Ae _ | exact Ad _ _ | exact Al _ | rfl | (simp; omega))) ?_ | fail)
      | refine r_q hG Y Y Y ?_))
    | (show AL _ _ _ _ _ _ _ _; first | refine Be Y Y Y ?_ | (refine Ar ?_; first | show AW _ _ _ _ _ _ | show ∃ x', _ < _ ∧ _)) | (show AW _ _ (.seq _ _) _ _ _; refine Ah ?_; intro Q1) | (show AW _ _ (.region _ _ false) _ _ _; refine Ac ?_; intro O1) | (show AW _ _ (.ret) _ _ _; refine Aq ?_; try dsimp only [A1, Ab, A0, Af]) | fail)
    exact Az (Aw rfl Ay) (.eq (by simp [mayC, h, tup1])) rfl
  · repeat' (first
    | ((show AL _ _ _ _ _ _ _ _; refine Ag Y ?_); (first
      | (show AOp _ _ ⟨_, .move _, _, _, _, _⟩ _ _ _; refine Ap hG Y Y ?_)
      | (show AOp _ _ ⟨_, .assign _, _, _, _, _⟩ _ _ _; refine A2 hG Y Y ?_)
      | (show AOp _ _ ⟨_, .call ⟨.builtin .len, _, _⟩, _, _, _, _⟩ _ _ _; first | refine Ax hG Y Y Y Y ?_ | refine A7 hG Y Y Y Y Y ?_)
      | (show AOp _ _ ⟨_, .binOp _ _ _ _ _, _, _, _, _⟩ _ _ _; first | refine Au hG Y Y Y Y Y (by omega) ?_ | refine As hG Y Y Y Y Y (by omega) ?_ | (refine Av hG Y Y Y Y Y (fun h => ?_) (fun h => ?_)))
      | (show AOp _ _ ⟨_, .pick _ _ _, _, _, _, _⟩ _ _ _; refine Bf hG Y Y Y ?_)
      | (show AOp _ _ ⟨_, .call ⟨.value _, _, _⟩, _, _, _, _⟩ _ _ _; first | refine A6 Y Y Y Y Y (by apply cats_rises <;> (first | assumption | omega | exact Aa _ _ | exact Ae _ | exact Ad _ _ | exact Al _ | rfl | (simp; omega))) ?_ | fail)
      | refine r_q hG Y Y Y ?_))
    | (show AL _ _ _ _ _ _ _ _; first | refine Be Y Y Y ?_ | (refine Ar ?_; first | show AW _ _ _ _ _ _ | show ∃ x', _ < _ ∧ _)) | (show AW _ _ (.seq _ _) _ _ _; refine Ah ?_; intro Q1) | (show AW _ _ (.region _ _ false) _ _ _; refine Ac ?_; intro O1) | (show AW _ _ (.ret) _ _ _; refine Aq ?_; try dsimp only [A1, Ab, A0, Af]) | fail)
    refine Az (Aw rfl Ay) (.eq ?_) rfl
    rw [mayC, decide_eq_false h]; rfl

def putC (b : List UInt8) (a : List UInt16) : List UInt8 := b ++ putI a.length 1 ++ a.flatMap fun c => putI c.toNat 2
theorem flat2_length (l : List UInt16) : (l.flatMap fun c => putI c.toNat 2).length = 2 * l.length := by
  induction l with
  | nil => rfl
  | cons x l ih =>
    have : (putI x.toNat 2).length = 2 := by rw [putI, if_pos (by omega), be_length]; rfl
    rw [List.flatMap_cons, List.length_append, ih, this, List.length_cons]; omega
theorem flatMap_take {α β : Type} [Inhabited α] (l : List α) (f : α → List β) (i : Nat) (h : i < l.length) : (l.take (i + 1)).flatMap f = (l.take i).flatMap f ++ f (l.getD i default) := by
  rw [take_getD l i h, List.flatMap_append]; simp
structure CPX (a : List UInt16) where
  i : Nat
  k : Nat
  hi : i ≤ a.length
theorem cats_Put {x y : T} {b : List UInt8} {a : List UInt16} (hx : bytesT x = some b) (hy : catsT y = some a) (hl : b.length ≤ 4294000000) (hs : a.length ≤ 70000) :
    Owns Try.prog 28 [x, y] 1 ((putC b a).map bT) := by
  refine Owns.weak (us := [sT b, cT a]) ?_ (wk2 (bytesT_wk hx) (catsT_wk hy))
  intro off
  refine Bd (N := 25) (rs := [.tmp 4]) hG Try.func28 rfl rfl rfl rfl rfl ?_
  have hpl := putI_le a.length 1
  repeat' (first
    | ((show AL _ _ _ _ _ _ _ _; refine Ag Y ?_); (first
      | (show AOp _ _ ⟨_, .move _, _, _, _, _⟩ _ _ _; refine Ap hG Y Y ?_)
      | (show AOp _ _ ⟨_, .assign _, _, _, _, _⟩ _ _ _; refine A2 hG Y Y ?_)
      | (show AOp _ _ ⟨_, .call ⟨.builtin .len, _, _⟩, _, _, _, _⟩ _ _ _; first | refine Ax hG Y Y Y Y ?_ | refine A7 hG Y Y Y Y Y ?_)
      | (show AOp _ _ ⟨_, .binOp .add _ _ _ _, _, _, _, _⟩ _ _ _; first | refine Aj hG Y Y Y Y Y (by omega) ?_)
      | (show AOp _ _ ⟨_, .binOp _ _ _ _ _, _, _, _, _⟩ _ _ _; first | refine Au hG Y Y Y Y Y (by omega) ?_ | refine As hG Y Y Y Y Y (by omega) ?_ | (refine Av hG Y Y Y Y Y (fun h => ?_) (fun h => ?_)))
      | (show AOp _ _ ⟨_, .load _ _, _, _, _, _⟩ _ _ _; first | refine A9 hG Y Y Y ?_ | refine A4 0 hG Y Y Y Y ?_)
      | (show AOp _ _ ⟨_, .indexAddr _ _ _, _, _, _, _⟩ _ _ _; first | refine A8 hG Y Y Y Y Y Y Y (by omega) ?_ | refine Ba hG Y Y Y Y Y Y Y (by omega) ?_ | refine Bj hG Y Y ?_)
      | (show AOp _ _ ⟨_, .convert _ _ _, _, _, _, _⟩ _ _ _; first | refine r_cv16 hG Y Y Y Y Y Y ?_ | refine Bi hG Y Y Y Y Y (by omega) ?_ | refine Bv hG Y Y Y Y Y ?_)
      | (show AOp _ _ ⟨_, .call ⟨.value _, _, _⟩, _, _, _, _⟩ _ _ _; first | (refine r_owns Y Y Y Y Y (by apply num_Put <;> (first | assumption | omega | exact Aa _ _ | exact Ae _ | exact Ad _ _ | exact Al _ | rfl | (simp; omega))) (fun k => ?_)) | (have := kk; clear this; refine A6 Y Y Y Y Y (Owns.pure (by apply num_Put <;> (first | assumption | omega | exact Aa _ _ | exact Ae _ | exact Ad _ _ | exact Al _ | rfl | (simp; omega)))) ?_) | fail)
      | refine r_q hG Y Y Y ?_))
    | (show AL _ _ _ _ _ _ _ _; first | refine Be Y Y Y ?_ | (refine Ar ?_; first | show AW _ _ _ _ _ _ | show ∃ x', _ < _ ∧ _)) | (show AW _ _ (.seq _ _) _ _ _; refine Ah ?_; intro Q1) | (show AW _ _ (.region _ _ false) _ _ _; refine Ac ?_; intro O1) | (show AW _ _ (.cond _ _ _) _ _ _; first | refine Am Y ?_ | refine Ao Y ?_) | (show AW _ _ (.skip) _ _ _; refine Ak ?_; first | show AW _ _ _ _ _ _ | show ∃ x', _ < _ ∧ _) | (show AW _ _ (.block _ _) _ _ _; refine Ai ?_; intro Q1) | (show AW _ _ (.exit _) _ _ _; refine A5 ?_; first | show AW _ _ _ _ _ _ | show ∃ x', _ < _ ∧ _) | (show AW _ _ (.ret) _ _ _; refine Aq ?_; try dsimp only [A1, Ab, A0, Af]) | fail)
  refine aw_loop (X := CPX a) (fun x => [(13, cT a), (14, .int .i64 a.length), (15, .int .i64 x.i), (5, .sl 1 (.tok x.k) ((b ++ putI a.length 1 ++ (a.take x.i).flatMap fun c => putI c.toNat 2).map bT))]) (fun x => ⟨[], [x.k], off, none⟩) (fun x => a.length - x.i) ⟨0, _, Nat.zero_le _⟩ ?_ (.refl _) ?_
  · exact .cons rfl (.cons rfl (.consW rfl (.int rfl) (.consW rfl (.eq (by simp)) (.nil _))))
  rintro ⟨i, k, hi⟩
  dsimp only
  have hf := flat2_length (a.take i)
  have htl : (a.take i).length = i := by rw [List.length_take]; omega
  by_cases hib : i < a.length
  · have hft := flatMap_take a (fun c => putI c.toNat 2) i hib
    have hlen : (b ++ putI a.length 1 ++ (a.take i).flatMap fun c => putI c.toNat 2).length ≤ 4294967000 := by rw [List.length_append, List.length_append]; omega
    repeat' (first
    | ((show AL _ _ _ _ _ _ _ _; refine Ag Y ?_); (first
      | (show AOp _ _ ⟨_, .move _, _, _, _, _⟩ _ _ _; refine Ap hG Y Y ?_)
      | (show AOp _ _ ⟨_, .assign _, _, _, _, _⟩ _ _ _; refine A2 hG Y Y ?_)
      | (show AOp _ _ ⟨_, .call ⟨.builtin .len, _, _⟩, _, _, _, _⟩ _ _ _; first | refine Ax hG Y Y Y Y ?_ | refine A7 hG Y Y Y Y Y ?_)
      | (show AOp _ _ ⟨_, .binOp .add _ _ _ _, _, _, _, _⟩ _ _ _; first | refine Aj hG Y Y Y Y Y (by omega) ?_)
      | (show AOp _ _ ⟨_, .binOp _ _ _ _ _, _, _, _, _⟩ _ _ _; first | refine Au hG Y Y Y Y Y (by omega) ?_ | refine As hG Y Y Y Y Y (by omega) ?_ | (refine Av hG Y Y Y Y Y (fun h => ?_) (fun h => ?_)))
      | (show AOp _ _ ⟨_, .load _ _, _, _, _, _⟩ _ _ _; first | refine A9 hG Y Y Y ?_ | refine A4 0 hG Y Y Y Y ?_)
      | (show AOp _ _ ⟨_, .indexAddr _ _ _, _, _, _, _⟩ _ _ _; first | refine A8 hG Y Y Y Y Y Y Y (by omega) ?_ | refine Ba hG Y Y Y Y Y Y Y (by omega) ?_ | refine Bj hG Y Y ?_)
      | (show AOp _ _ ⟨_, .convert _ _ _, _, _, _, _⟩ _ _ _; first | refine r_cv16 hG Y Y Y Y Y Y ?_ | refine Bi hG Y Y Y Y Y (by omega) ?_ | refine Bv hG Y Y Y Y Y ?_)
      | (show AOp _ _ ⟨_, .call ⟨.value _, _, _⟩, _, _, _, _⟩ _ _ _; first | (refine r_owns Y Y Y Y Y (by apply num_Put <;> (first | assumption | omega | exact Aa _ _ | exact Ae _ | exact Ad _ _ | exact Al _ | rfl | (simp; omega))) (fun k => ?_)) | (have := kk; clear this; refine A6 Y Y Y Y Y (Owns.pure (by apply num_Put <;> (first | assumption | omega | exact Aa _ _ | exact Ae _ | exact Ad _ _ | exact Al _ | rfl | (simp; omega)))) ?_) | fail)
      | refine r_q hG Y Y Y ?_))
    | (show AL _ _ _ _ _ _ _ _; first | refine Be Y Y Y ?_ | (refine Ar ?_; first | show AW _ _ _ _ _ _ | show ∃ x', _ < _ ∧ _)) | (show AW _ _ (.seq _ _) _ _ _; refine Ah ?_; intro Q1) | (show AW _ _ (.region _ _ false) _ _ _; refine Ac ?_; intro O1) | (show AW _ _ (.cond _ _ _) _ _ _; first | refine Am Y ?_ | refine Ao Y ?_) | (show AW _ _ (.skip) _ _ _; refine Ak ?_; first | show AW _ _ _ _ _ _ | show ∃ x', _ < _ ∧ _) | (show AW _ _ (.block _ _) _ _ _; refine Ai ?_; intro Q1) | (show AW _ _ (.exit _) _ _ _; refine A5 ?_; first | show AW _ _ _ _ _ _ | show ∃ x', _ < _ ∧ _) | (show AW _ _ (.ret) _ _ _; refine Aq ?_; try dsimp only [A1, Ab, A0, Af]) | fail)
    refine ⟨⟨i + 1, _, by omega⟩, by dsimp only; omega, ?_, drop_tok⟩
    exact .cons rfl (.cons rfl (.consW rfl (.int (by simp)) (.consW rfl (.eq (by rw [hft]; simp)) (.nil _))))
  · obtain rfl : i = a.length := by omega
    repeat' (first
    | ((show AL _ _ _ _ _ _ _ _; refine Ag Y ?_); (first
      | (show AOp _ _ ⟨_, .move _, _, _, _, _⟩ _ _ _; refine Ap hG Y Y ?_)
      | (show AOp _ _ ⟨_, .assign _, _, _, _, _⟩ _ _ _; refine A2 hG Y Y ?_)
      | (show AOp _ _ ⟨_, .call ⟨.builtin .len, _, _⟩, _, _, _, _⟩ _ _ _; first | refine Ax hG Y Y Y Y ?_ | refine A7 hG Y Y Y Y Y ?_)
      | (show AOp _ _ ⟨_, .binOp .add _ _ _ _, _, _, _, _⟩ _ _ _; first | refine Aj hG Y Y Y Y Y (by omega) ?_)
      | (show AOp _ _ ⟨_, .binOp _ _ _ _ _, _, _, _, _⟩ _ _ _; first | refine Au hG Y Y Y Y Y (by omega) ?_ | refine As hG Y Y Y Y Y (by omega) ?_ | (refine Av hG Y Y Y Y Y (fun h => ?_) (fun h => ?_)))
      | (show AOp _ _ ⟨_, .load _ _, _, _, _, _⟩ _ _ _; first | refine A9 hG Y Y Y ?_ | refine A4 0 hG Y Y Y Y ?_)
      | (show AOp _ _ ⟨_, .indexAddr _ _ _, _, _, _, _⟩ _ _ _; first | refine A8 hG Y Y Y Y Y Y Y (by omega) ?_ | refine Ba hG Y Y Y Y Y Y Y (by omega) ?_ | refine Bj hG Y Y ?_)
      | (show AOp _ _ ⟨_, .convert _ _ _, _, _, _, _⟩ _ _ _; first | refine r_cv16 hG Y Y Y Y Y Y ?_ | refine Bi hG Y Y Y Y Y (by omega) ?_ | refine Bv hG Y Y Y Y Y ?_)
      | refine r_q hG Y Y Y ?_))
    | (show AL _ _ _ _ _ _ _ _; first | refine Be Y Y Y ?_ | (refine Ar ?_; first | show AW _ _ _ _ _ _ | show ∃ x', _ < _ ∧ _)) | (show AW _ _ (.seq _ _) _ _ _; refine Ah ?_; intro Q1) | (show AW _ _ (.region _ _ false) _ _ _; refine Ac ?_; intro O1) | (show AW _ _ (.cond _ _ _) _ _ _; first | refine Am Y ?_ | refine Ao Y ?_) | (show AW _ _ (.skip) _ _ _; refine Ak ?_; first | show AW _ _ _ _ _ _ | show ∃ x', _ < _ ∧ _) | (show AW _ _ (.block _ _) _ _ _; refine Ai ?_; intro Q1) | (show AW _ _ (.exit _) _ _ _; refine A5 ?_; first | show AW _ _ _ _ _ _ | show ∃ x', _ < _ ∧ _) | (show AW _ _ (.ret) _ _ _; refine Aq ?_; try dsimp only [A1, Ab, A0, Af]) | fail)
    exact ret_owns 0 (Aw rfl Ay) rfl (by rw [putC, List.take_length]) rfl

end Go.Proofs.Ytemgmkoggnjgjaa
namespace Go.Proofs.Ytemgmkoggnjgjaa
open Go.Ts
set_option linter.unusedSimpArgs false
set_option linter.unusedVariables false
attribute [local irreducible] Go.Ts.AW Go.Ts.AOps Go.Ts.AL Go.Ts.AOp Go.Ts.ACalls Go.Ts.DL Go.Ts.DQ Go.Ts.EL
def iT (x : Nat) : T := .int .i64 x
instance : Enc iT 1 := ⟨fun x c h => by simp [iT, T.cells] at h; subst h; rfl, fun x => rfl⟩
def wT (x : Nat) : T := .int .u64 x
instance : Enc wT 1 := ⟨fun x c h => by simp [wT, T.cells] at h; subst h; rfl, fun x => rfl⟩
def nums : Nat → Nat → List Nat → Option (List Nat)
  | 0, id, out => if id = 1 then some out else none
  | f + 1, id, out => if id = 1 then some out else if id > 1 ∧ id % 64 > 0 then nums f (id / 64) (out ++ [id % 64]) else none
def nameB (id : Nat) : Bool := (nums 6 id []).isSome
def numsT (id : Nat) : T := match nums 6 id [] with
  | some l => .sl 1 .no (l.map iT)
  | none => .nilsl
structure NuX (id : Nat) where
  f : Nat
  hf : f ≤ 6
  id' : Nat
  h64 : id' < 18446744073709551616
  out : List Nat
  ho : out.length = 6 - f
  hr : nums f id' out = nums 6 id []
  k : Nat
theorem and63 (v : Nat) (h : v < 18446744073709551616) : IntKind.u64.wrap ((BitVec.ofInt IntKind.u64.bits (v : Int) &&& BitVec.ofInt IntKind.u64.bits 63).toNat) = ((v % 64 : Nat) : Int) := by
  have e1 : BitVec.ofInt IntKind.u64.bits (v : Int) = BitVec.ofNat 64 v := by
    show BitVec.ofInt 64 _ = _
    rw [BitVec.ofInt_natCast]
  have e2 : BitVec.ofInt IntKind.u64.bits 63 = BitVec.ofNat 64 63 := rfl
  rw [e1, e2]
  have e3 : (BitVec.ofNat 64 v &&& BitVec.ofNat 64 63).toNat = v % 64 := by
    rw [BitVec.toNat_and, BitVec.toNat_ofNat, BitVec.toNat_ofNat, Nat.mod_eq_of_lt (by omega : v < 2 ^ 64), Nat.mod_eq_of_lt (by decide)]
    exact Nat.and_two_pow_sub_one_eq_mod v 6
  refine (congrArg (fun n : Nat => IntKind.u64.wrap (n : Int)) e3).trans ?_
  exact u64_in (by omega) (by omega)
section
variable {P : Program} {G : Nat → Option TI} {σ : St} {N : Nat} {a : Env}
theorem r_and63 {t yt : TypeId} {x : Operand} {v : Nat} {ti : TI} {d : Tmp} {ty : TypeId} {pos : String} {af : Array Edge} {gd : Option (Nat × Bool)} {K : Env → St → Prop} (hG : Fits P G) (ht : G t = some ti) (hx : A3 a x = some (.int .u64 (v : Int))) (h : v < 18446744073709551616) (hd : Bb N (some d) = true)
    (kk : K (put a (some d) (.int .u64 ((v % 64 : Nat) : Int))) σ) : AOp P N ⟨some d, .binOp .and t x (.const (.int .u64 63)) yt, ty, pos, af, gd⟩ a σ K := by
  refine op_q hG (t := .int .u64 ((v % 64 : Nat) : Int)) ?_ rfl hd kk
  rw [← and63 v h]
  simp only [Bq, hx, ht]; rfl
end
theorem shr6 (v : Nat) : (v : Int) / 2 ^ (min (Int.toNat 6) IntKind.u64.bits) = ((v / 64 : Nat) : Int) := by
  rw [show (min (Int.toNat 6) IntKind.u64.bits) = 6 from rfl]; omega
theorem name_numbers {id : Nat} (h : id < 18446744073709551616) : Ts.Pure Try.prog 64 [.int .u64 id] (.tup [numsT id, .bool (nameB id)]) := by
  intro off
  refine Bd (N := 29) (rs := [.tmp 2, .tmp 3]) hG Try.func64 rfl rfl rfl rfl rfl ?_
  repeat' (first
    | ((show AL _ _ _ _ _ _ _ _; refine Ag Y ?_); (first
      | (show AOp _ _ ⟨_, .move _, _, _, _, _⟩ _ _ _; refine Ap hG Y Y ?_)
      | (show AOp _ _ ⟨_, .assign _, _, _, _, _⟩ _ _ _; refine A2 hG Y Y ?_)
      | (show AOp _ _ ⟨_, .call ⟨.builtin .len, _, _⟩, _, _, _, _⟩ _ _ _; first | refine Ax hG Y Y Y Y ?_ | refine A7 hG Y Y Y Y Y ?_)
      | (show AOp _ _ ⟨_, .binOp .shr _ _ _ _, _, _, _, _⟩ _ _ _; refine r_shr hG Y Y Y Y (by omega) ?_)
      | (show AOp _ _ ⟨_, .binOp .and _ _ _ _, _, _, _, _⟩ _ _ _; refine r_and63 hG Y Y (by omega) Y ?_)
      | (show AOp _ _ ⟨_, .binOp _ _ _ _ _, _, _, _, _⟩ _ _ _; first | refine Au hG Y Y Y Y Y (by omega) ?_ | refine As hG Y Y Y Y Y (by omega) ?_ | (refine Av hG Y Y Y Y Y (fun h => ?_) (fun h => ?_)) | refine r_bin' hG Y Y Y ?_)
      | (show AOp _ _ ⟨_, .convert _ _ _, _, _, _, _⟩ _ _ _; first | refine r_cv_i64 hG Y Y Y Y Y (by omega) ?_ | refine Bv hG Y Y Y Y Y ?_)
      | (show AOp _ _ ⟨_, .pick _ _ _, _, _, _, _⟩ _ _ _; refine Bf hG Y Y Y ?_)
      | (show AOp _ _ ⟨_, .buildSlice _ _ _, _, _, _, _⟩ _ _ _; first | refine r_mk (sz := 1) hG Y Y Y Y Y Y Y ?_)
      | (show AOp _ _ ⟨_, .call ⟨.builtin .append, _, _⟩, _, _, _, _⟩ _ _ _; first | refine Bg (sz := 1) (xs := []) hG Y Y Y Y Y Y Y ⟨_, Y⟩ Y Y Y Y Y Y Y (by first | omega | (simp; omega)) (fun k => ?_) | refine Bm 0 hG Y Y Y Y Y Y Y ⟨_, Y⟩ Y Y Y Y Y (by first | omega | (simp only [List.length_append, List.length_cons, List.length_nil]; omega)) (fun k => ?_) | fail)
      | refine r_q hG Y Y Y ?_))
    | (show AL _ _ _ _ _ _ _ _; first | refine Be Y Y Y ?_ | (refine Ar ?_; first | show AW _ _ _ _ _ _ | show ∃ x', _ < _ ∧ _)) | (show AW _ _ (.seq _ _) _ _ _; refine Ah ?_; intro Q1) | (show AW _ _ (.region _ _ false) _ _ _; refine Ac ?_; intro O1) | (show AW _ _ (.cond _ _ _) _ _ _; first | refine Am Y ?_ | refine Ao Y ?_) | (show AW _ _ (.skip) _ _ _; refine Ak ?_; first | show AW _ _ _ _ _ _ | show ∃ x', _ < _ ∧ _) | (show AW _ _ (.goto _) _ _ _; refine aw_goto ?_; try dsimp only [A1, Ab, A0, Af]) | (show AW _ _ (.ret) _ _ _; refine Aq ?_; try dsimp only [A1, Ab, A0, Af]) | fail)
  refine aw_scope' 0 rfl (X := NuX id) (fun x => [(0, .int .u64 x.id'), (4, .sl 1 (.tok x.k) (x.out.map iT))]) (fun x => ⟨[], [x.k], off, none⟩) (fun x => x.f) ?_ ?_
  · rintro ⟨f, hf, id', h64, out, ho, hr, k⟩
    dsimp only
    have hr' : numsT id = match nums f id' out with
      | some l => .sl 1 .no (l.map iT)
      | none => .nilsl := by rw [hr]; rfl
    have hn' : nameB id = (nums f id' out).isSome := by rw [hr]; rfl
    by_cases h1 : id' = 1
    · have hz : nums f id' out = some out := by cases f <;> simp [nums, h1]
      rw [hz] at hr' hn'
      repeat' (first
    | ((show AL _ _ _ _ _ _ _ _; refine Ag Y ?_); (first
      | (show AOp _ _ ⟨_, .move _, _, _, _, _⟩ _ _ _; refine Ap hG Y Y ?_)
      | (show AOp _ _ ⟨_, .assign _, _, _, _, _⟩ _ _ _; refine A2 hG Y Y ?_)
      | (show AOp _ _ ⟨_, .call ⟨.builtin .len, _, _⟩, _, _, _, _⟩ _ _ _; first | refine Ax hG Y Y Y Y ?_ | refine A7 hG Y Y Y Y Y ?_)
      | (show AOp _ _ ⟨_, .binOp .shr _ _ _ _, _, _, _, _⟩ _ _ _; refine r_shr hG Y Y Y Y (by omega) ?_)
      | (show AOp _ _ ⟨_, .binOp .and _ _ _ _, _, _, _, _⟩ _ _ _; refine r_and63 hG Y Y (by omega) Y ?_)
      | (show AOp _ _ ⟨_, .binOp _ _ _ _ _, _, _, _, _⟩ _ _ _; first | refine Au hG Y Y Y Y Y (by omega) ?_ | refine As hG Y Y Y Y Y (by omega) ?_ | (refine Av hG Y Y Y Y Y (fun h => ?_) (fun h => ?_)) | refine r_bin' hG Y Y Y ?_)
      | (show AOp _ _ ⟨_, .convert _ _ _, _, _, _, _⟩ _ _ _; first | refine r_cv_i64 hG Y Y Y Y Y (by omega) ?_ | refine Bv hG Y Y Y Y Y ?_)
      | (show AOp _ _ ⟨_, .pick _ _ _, _, _, _, _⟩ _ _ _; refine Bf hG Y Y Y ?_)
      | (show AOp _ _ ⟨_, .buildSlice _ _ _, _, _, _, _⟩ _ _ _; first | refine r_mk (sz := 1) hG Y Y Y Y Y Y Y ?_)
      | (show AOp _ _ ⟨_, .call ⟨.builtin .append, _, _⟩, _, _, _, _⟩ _ _ _; first | refine Bg (sz := 1) (xs := []) hG Y Y Y Y Y Y Y ⟨_, Y⟩ Y Y Y Y Y Y Y (by first | omega | (simp; omega)) (fun k => ?_) | refine Bm 0 hG Y Y Y Y Y Y Y ⟨_, Y⟩ Y Y Y Y Y (by first | omega | (simp only [List.length_append, List.length_cons, List.length_nil]; omega)) (fun k => ?_) | fail)
      | refine r_q hG Y Y Y ?_))
    | (show AL _ _ _ _ _ _ _ _; first | refine Be Y Y Y ?_ | (refine Ar ?_; first | show AW _ _ _ _ _ _ | show ∃ x', _ < _ ∧ _)) | (show AW _ _ (.seq _ _) _ _ _; refine Ah ?_; intro Q1) | (show AW _ _ (.region _ _ false) _ _ _; refine Ac ?_; intro O1) | (show AW _ _ (.cond _ _ _) _ _ _; first | refine Am Y ?_ | refine Ao Y ?_) | (show AW _ _ (.skip) _ _ _; refine Ak ?_; first | show AW _ _ _ _ _ _ | show ∃ x', _ < _ ∧ _) | (show AW _ _ (.goto _) _ _ _; refine aw_goto ?_; try dsimp only [A1, Ab, A0, Af]) | (show AW _ _ (.ret) _ _ _; refine Aq ?_; try dsimp only [A1, Ab, A0, Af]) | fail)
      exact Az (Aw rfl (Aw rfl Ay)) (by rw [hr', hn']; exact Wk.tupL (wk2 (Wk.own _ _ _) (.refl _))) rfl
    by_cases hc : id' > 1 ∧ id' % 64 > 0 ∧ 0 < f
    · obtain ⟨g, rfl⟩ : ∃ g, f = g + 1 := ⟨f - 1, by omega⟩
      have hz : nums (g + 1) id' out = nums g (id' / 64) (out ++ [id' % 64]) := by rw [nums, if_neg h1, if_pos ⟨hc.1, hc.2.1⟩]
      repeat' (first
    | ((show AL _ _ _ _ _ _ _ _; refine Ag Y ?_); (first
      | (show AOp _ _ ⟨_, .move _, _, _, _, _⟩ _ _ _; refine Ap hG Y Y ?_)
      | (show AOp _ _ ⟨_, .assign _, _, _, _, _⟩ _ _ _; refine A2 hG Y Y ?_)
      | (show AOp _ _ ⟨_, .call ⟨.builtin .len, _, _⟩, _, _, _, _⟩ _ _ _; first | refine Ax hG Y Y Y Y ?_ | refine A7 hG Y Y Y Y Y ?_)
      | (show AOp _ _ ⟨_, .binOp .shr _ _ _ _, _, _, _, _⟩ _ _ _; refine r_shr hG Y Y Y Y (by omega) ?_)
      | (show AOp _ _ ⟨_, .binOp .and _ _ _ _, _, _, _, _⟩ _ _ _; refine r_and63 hG Y Y (by omega) Y ?_)
      | (show AOp _ _ ⟨_, .binOp _ _ _ _ _, _, _, _, _⟩ _ _ _; first | refine Au hG Y Y Y Y Y (by omega) ?_ | refine As hG Y Y Y Y Y (by omega) ?_ | (refine Av hG Y Y Y Y Y (fun h => ?_) (fun h => ?_)) | refine r_bin' hG Y Y Y ?_)
      | (show AOp _ _ ⟨_, .convert _ _ _, _, _, _, _⟩ _ _ _; first | refine r_cv_i64 hG Y Y Y Y Y (by omega) ?_ | refine Bv hG Y Y Y Y Y ?_)
      | (show AOp _ _ ⟨_, .pick _ _ _, _, _, _, _⟩ _ _ _; refine Bf hG Y Y Y ?_)
      | (show AOp _ _ ⟨_, .buildSlice _ _ _, _, _, _, _⟩ _ _ _; first | refine r_mk (sz := 1) hG Y Y Y Y Y Y Y ?_)
      | (show AOp _ _ ⟨_, .call ⟨.builtin .append, _, _⟩, _, _, _, _⟩ _ _ _; first | refine Bm 0 (ys := [id' % 64]) hG Y Y Y Y Y Y Y ⟨_, Y⟩ Y Y Y Y Y (by simp only [List.length_append, List.length_map, List.length_cons, List.length_nil]; omega) (fun k => ?_) | refine Bg (sz := 1) (xs := []) hG Y Y Y Y Y Y Y ⟨_, Y⟩ Y Y Y Y Y Y Y (by first | omega | (simp; omega)) (fun k => ?_) | refine Bm 0 hG Y Y Y Y Y Y Y ⟨_, Y⟩ Y Y Y Y Y (by first | omega | (simp only [List.length_append, List.length_cons, List.length_nil]; omega)) (fun k => ?_) | fail)
      | refine r_q hG Y Y Y ?_))
    | (show AL _ _ _ _ _ _ _ _; first | refine Be Y Y Y ?_ | (refine Ar ?_; first | show AW _ _ _ _ _ _ | show ∃ x', _ < _ ∧ _)) | (show AW _ _ (.seq _ _) _ _ _; refine Ah ?_; intro Q1) | (show AW _ _ (.region _ _ false) _ _ _; refine Ac ?_; intro O1) | (show AW _ _ (.cond _ _ _) _ _ _; first | refine Am Y ?_ | refine Ao Y ?_) | (show AW _ _ (.skip) _ _ _; refine Ak ?_; first | show AW _ _ _ _ _ _ | show ∃ x', _ < _ ∧ _) | (show AW _ _ (.goto _) _ _ _; refine aw_goto ?_; try dsimp only [A1, Ab, A0, Af]) | (show AW _ _ (.ret) _ _ _; refine Aq ?_; try dsimp only [A1, Ab, A0, Af]) | fail)
      refine ⟨rfl, ⟨g, by omega, id' / 64, by omega, out ++ [id' % 64], by simp; omega, by rw [← hz]; exact hr, _⟩, by dsimp only; omega, ?_, drop_tok⟩
      exact .consW rfl (.int (shr6 id')) (.cons rfl (.nil _))
    · have hz : nums f id' out = none := by
        cases f with
        | zero => rw [nums, if_neg h1]
        | succ g => rw [nums, if_neg h1, if_neg (fun h => hc ⟨h.1, h.2, by omega⟩)]
      rw [hz] at hr' hn'
      repeat' (first
    | ((show AL _ _ _ _ _ _ _ _; refine Ag Y ?_); (first
      | (show AOp _ _ ⟨_, .move _, _, _, _, _⟩ _ _ _; refine Ap hG Y Y ?_)
      | (show AOp _ _ ⟨_, .assign _, _, _, _, _⟩ _ _ _; refine A2 hG Y Y ?_)
      | (show AOp _ _ ⟨_, .call ⟨.builtin .len, _, _⟩, _, _, _, _⟩ _ _ _; first | refine Ax hG Y Y Y Y ?_ | refine A7 hG Y Y Y Y Y ?_)
      | (show AOp _ _ ⟨_, .binOp .shr _ _ _ _, _, _, _, _⟩ _ _ _; refine r_shr hG Y Y Y Y (by omega) ?_)
      | (show AOp _ _ ⟨_, .binOp .and _ _ _ _, _, _, _, _⟩ _ _ _; refine r_and63 hG Y Y (by omega) Y ?_)
      | (show AOp _ _ ⟨_, .binOp _ _ _ _ _, _, _, _, _⟩ _ _ _; first | refine Au hG Y Y Y Y Y (by omega) ?_ | refine As hG Y Y Y Y Y (by omega) ?_ | (refine Av hG Y Y Y Y Y (fun h => ?_) (fun h => ?_)) | refine r_bin' hG Y Y Y ?_)
      | (show AOp _ _ ⟨_, .convert _ _ _, _, _, _, _⟩ _ _ _; first | refine r_cv_i64 hG Y Y Y Y Y (by omega) ?_ | refine Bv hG Y Y Y Y Y ?_)
      | (show AOp _ _ ⟨_, .pick _ _ _, _, _, _, _⟩ _ _ _; refine Bf hG Y Y Y ?_)
      | (show AOp _ _ ⟨_, .buildSlice _ _ _, _, _, _, _⟩ _ _ _; first | refine r_mk (sz := 1) hG Y Y Y Y Y Y Y ?_)
      | (show AOp _ _ ⟨_, .call ⟨.builtin .append, _, _⟩, _, _, _, _⟩ _ _ _; first | refine Bg (sz := 1) (xs := []) hG Y Y Y Y Y Y Y ⟨_, Y⟩ Y Y Y Y Y Y Y (by first | omega | (simp; omega)) (fun k => ?_) | refine Bm 0 hG Y Y Y Y Y Y Y ⟨_, Y⟩ Y Y Y Y Y (by first | omega | (simp only [List.length_append, List.length_cons, List.length_nil]; omega)) (fun k => ?_) | fail)
      | refine r_q hG Y Y Y ?_))
    | (show AL _ _ _ _ _ _ _ _; first | refine Be Y Y Y ?_ | (refine Ar ?_; first | show AW _ _ _ _ _ _ | show ∃ x', _ < _ ∧ _)) | (show AW _ _ (.seq _ _) _ _ _; refine Ah ?_; intro Q1) | (show AW _ _ (.region _ _ false) _ _ _; refine Ac ?_; intro O1) | (show AW _ _ (.cond _ _ _) _ _ _; first | refine Am Y ?_ | refine Ao Y ?_) | (show AW _ _ (.skip) _ _ _; refine Ak ?_; first | show AW _ _ _ _ _ _ | show ∃ x', _ < _ ∧ _) | (show AW _ _ (.goto _) _ _ _; refine aw_goto ?_; try dsimp only [A1, Ab, A0, Af]) | (show AW _ _ (.ret) _ _ _; refine Aq ?_; try dsimp only [A1, Ab, A0, Af]) | fail)
      all_goals exact Az (Aw rfl (Aw rfl Ay)) (by rw [hr', hn']; exact .refl _) rfl
  · intro key
    repeat' (first
    | ((show AL _ _ _ _ _ _ _ _; refine Ag Y ?_); (first
      | (show AOp _ _ ⟨_, .move _, _, _, _, _⟩ _ _ _; refine Ap hG Y Y ?_)
      | (show AOp _ _ ⟨_, .assign _, _, _, _, _⟩ _ _ _; refine A2 hG Y Y ?_)
      | (show AOp _ _ ⟨_, .call ⟨.builtin .len, _, _⟩, _, _, _, _⟩ _ _ _; first | refine Ax hG Y Y Y Y ?_ | refine A7 hG Y Y Y Y Y ?_)
      | (show AOp _ _ ⟨_, .binOp .shr _ _ _ _, _, _, _, _⟩ _ _ _; refine r_shr hG Y Y Y Y (by omega) ?_)
      | (show AOp _ _ ⟨_, .binOp .and _ _ _ _, _, _, _, _⟩ _ _ _; refine r_and63 hG Y Y (by omega) Y ?_)
      | (show AOp _ _ ⟨_, .binOp _ _ _ _ _, _, _, _, _⟩ _ _ _; first | refine Au hG Y Y Y Y Y (by omega) ?_ | refine As hG Y Y Y Y Y (by omega) ?_ | (refine Av hG Y Y Y Y Y (fun h => ?_) (fun h => ?_)) | refine r_bin' hG Y Y Y ?_)
      | (show AOp _ _ ⟨_, .convert _ _ _, _, _, _, _⟩ _ _ _; first | refine r_cv_i64 hG Y Y Y Y Y (by omega) ?_ | refine Bv hG Y Y Y Y Y ?_)
      | (show AOp _ _ ⟨_, .pick _ _ _, _, _, _, _⟩ _ _ _; refine Bf hG Y Y Y ?_)
      | (show AOp _ _ ⟨_, .buildSlice _ _ _, _, _, _, _⟩ _ _ _; first | refine r_mk (sz := 1) hG Y Y Y Y Y Y Y ?_)
      | (show AOp _ _ ⟨_, .call ⟨.builtin .append, _, _⟩, _, _, _, _⟩ _ _ _; first | refine Bg (sz := 1) (xs := []) hG Y Y Y Y Y Y Y ⟨_, Y⟩ Y Y Y Y Y Y Y (by first | omega | (simp; omega)) (fun k => ?_) | refine Bm 0 hG Y Y Y Y Y Y Y ⟨_, Y⟩ Y Y Y Y Y (by first | omega | (simp only [List.length_append, List.length_cons, List.length_nil]; omega)) (fun k => ?_) | fail)
      | refine r_q hG Y Y Y ?_))
    | (show AL _ _ _ _ _ _ _ _; first | refine Be Y Y Y ?_ | (refine Ar ?_; first | show AW _ _ _ _ _ _ | show ∃ x', _ < _ ∧ _)) | (show AW _ _ (.seq _ _) _ _ _; refine Ah ?_; intro Q1) | (show AW _ _ (.region _ _ false) _ _ _; refine Ac ?_; intro O1) | (show AW _ _ (.cond _ _ _) _ _ _; first | refine Am Y ?_ | refine Ao Y ?_) | (show AW _ _ (.skip) _ _ _; refine Ak ?_; first | show AW _ _ _ _ _ _ | show ∃ x', _ < _ ∧ _) | (show AW _ _ (.goto _) _ _ _; refine aw_goto ?_; try dsimp only [A1, Ab, A0, Af]) | (show AW _ _ (.ret) _ _ _; refine Aq ?_; try dsimp only [A1, Ab, A0, Af]) | fail)
    refine aw_label ?_
    show AW _ _ _ _ _ _
    refine aw_tok0 4 1 rfl rfl rfl rfl (fun k => ?_)
    refine aw_forget ?_ (key ⟨6, by omega, id, h, [], rfl, rfl, k⟩)
    exact .cons rfl (.cons rfl (.nil _))
theorem name_May {id : Nat} (h : id < 18446744073709551616) : Ts.Pure Try.prog 45 [.int .u64 id] (.bool (nameB id)) := by
  intro off
  refine Bd (N := 11) (rs := [.tmp 2]) hG Try.func45 rfl rfl rfl rfl rfl ?_
  have hc := name_numbers h
  repeat' (first
    | ((show AL _ _ _ _ _ _ _ _; refine Ag Y ?_); (first
      | (show AOp _ _ ⟨_, .move _, _, _, _, _⟩ _ _ _; refine Ap hG Y Y ?_)
      | (show AOp _ _ ⟨_, .assign _, _, _, _, _⟩ _ _ _; refine A2 hG Y Y ?_)
      | (show AOp _ _ ⟨_, .call ⟨.value _, _, _⟩, _, _, _, _⟩ _ _ _; first | refine A6 Y Y Y Y Y (by apply hc <;> (first | assumption | omega | exact Aa _ _ | exact Ae _ | exact Ad _ _ | exact Al _ | rfl | (simp; omega))) ?_ | fail)
      | refine r_q hG Y Y Y ?_))
    | (show AL _ _ _ _ _ _ _ _; first | refine Be Y Y Y ?_ | (refine Ar ?_; first | show AW _ _ _ _ _ _ | show ∃ x', _ < _ ∧ _)) | (show AW _ _ (.seq _ _) _ _ _; refine Ah ?_; intro Q1) | (show AW _ _ (.region _ _ false) _ _ _; refine Ac ?_; intro O1) | (show AW _ _ (.ret) _ _ _; refine Aq ?_; try dsimp only [A1, Ab, A0, Af]) | fail)
  exact Az (Aw rfl Ay) (.refl _) rfl
def pathR : Nat → Nat → List Nat → Option (List Nat)
  | 0, id, l => if id = 1 ∧ l.length ≤ 6 then some (1 :: l) else none
  | f + 1, id, l => if id > 1 then (if id % 64 = 0 then none else pathR f (id / 64) (id :: l)) else if id = 1 ∧ l.length ≤ 6 then some (1 :: l) else none
theorem pathR_long : ∀ (f id : Nat) (l : List Nat), 6 < l.length → pathR f id l = none
  | 0, id, l, h => by rw [pathR, if_neg (by omega)]
  | f + 1, id, l, h => by
    rw [pathR]
    split
    · split
      · rfl
      · exact pathR_long f _ _ (by simp; omega)
    · rw [if_neg (by omega)]
theorem nums_path : ∀ (f g id : Nat) (out l : List Nat), f ≤ g → l.length + f = 6 → (pathR (g + 1) id l).isSome = (nums f id out).isSome
  | 0, g, id, out, l, hg, hl => by
    rw [nums, pathR]
    by_cases h1 : id = 1
    · rw [if_neg (by omega), if_pos ⟨h1, by omega⟩, if_pos h1]; try rfl
    · rw [if_neg h1]
      split
      · split
        · rfl
        · rw [pathR_long _ _ _ (by simp; omega)]
      · rw [if_neg (by omega)]
  | f + 1, g, id, out, l, hg, hl => by
    rw [nums, pathR]
    by_cases h1 : id = 1
    · rw [if_neg (by omega), if_pos ⟨h1, by omega⟩, if_pos h1]; try rfl
    · rw [if_neg h1]
      by_cases h2 : id > 1
      · rw [if_pos h2]
        by_cases h3 : id % 64 = 0
        · rw [if_pos h3, if_neg (by omega)]; try rfl
        · rw [if_neg h3, if_pos ⟨h2, by omega⟩]
          obtain ⟨g', rfl⟩ : ∃ g', g = g' + 1 := ⟨g - 1, by omega⟩
          exact nums_path f g' (id / 64) _ (id :: l) (by omega) (by simp; omega)
      · rw [if_neg h2, if_neg (by omega), if_neg (by omega)]; try rfl
theorem path_name (id : Nat) : (pathR 20 id []).isSome = nameB id := nums_path 6 19 id [] [] (by omega) rfl
structure PaX (id : Nat) where
  f : Nat
  hf : f ≤ 20
  id' : Nat
  h64 : id' < 18446744073709551616
  l : List Nat
  hl : l.length ≤ 20 - f
  hr : pathR f id' l = pathR 20 id []
  k : Nat
theorem quo64 (v : Nat) (h : v < 18446744073709551616) : IntKind.u64.wrap ((v : Int).tdiv 64) = ((v / 64 : Nat) : Int) := by
  rw [Int.tdiv_eq_ediv_of_nonneg (by omega), u64_in (by omega) (by omega)]; omega
def pathT (id : Nat) : T := match pathR 20 id [] with
  | some l => .sl 1 .no (l.map wT)
  | none => .nilsl
theorem ref_Path {id : Nat} (h : id < 18446744073709551616) : Ts.Pure Try.prog 70 [.int .u64 id] (pathT id) := by
  intro off
  refine Bd (N := 32) (rs := [.tmp 2]) hG Try.func70 rfl rfl rfl rfl rfl ?_
  repeat' (first
    | ((show AL _ _ _ _ _ _ _ _; refine Ag Y ?_); (first
      | (show AOp _ _ ⟨_, .move _, _, _, _, _⟩ _ _ _; refine Ap hG Y Y ?_)
      | (show AOp _ _ ⟨_, .assign _, _, _, _, _⟩ _ _ _; refine A2 hG Y Y ?_)
      | (show AOp _ _ ⟨_, .call ⟨.builtin .len, _, _⟩, _, _, _, _⟩ _ _ _; first | refine Ax hG Y Y Y Y ?_ | refine A7 hG Y Y Y Y Y ?_)
      | (show AOp _ _ ⟨_, .binOp .add _ _ _ _, _, _, _, _⟩ _ _ _; first | refine Aj hG Y Y Y Y Y (by omega) ?_)
      | (show AOp _ _ ⟨_, .binOp .rem _ _ _ _, _, _, _, _⟩ _ _ _; first | refine r_rem hG Y Y Y Y (by omega) ?_ | refine r_trem hG Y Y Y Y (by omega) ?_)
      | (show AOp _ _ ⟨_, .binOp _ _ _ _ _, _, _, _, _⟩ _ _ _; first | refine Au hG Y Y Y Y Y (by omega) ?_ | refine As hG Y Y Y Y Y (by omega) ?_ | (refine Av hG Y Y Y Y Y (fun h => ?_) (fun h => ?_)) | refine r_bin' hG Y Y Y ?_)
      | (show AOp _ _ ⟨_, .pick _ _ _, _, _, _, _⟩ _ _ _; refine Bf hG Y Y Y ?_)
      | (show AOp _ _ ⟨_, .buildSlice _ _ _, _, _, _, _⟩ _ _ _; first | refine r_mk (sz := 1) hG Y Y Y Y Y Y Y ?_)
      | (show AOp _ _ ⟨_, .call ⟨.builtin .append, _, _⟩, _, _, _, _⟩ _ _ _; first | refine Bg (sz := 1) (xs := []) hG Y Y Y Y Y Y Y ⟨_, Y⟩ Y Y Y Y Y Y Y (by first | omega | (simp; omega)) (fun k => ?_) | refine Bm 0 hG Y Y Y Y Y Y Y ⟨_, Y⟩ Y Y Y Y Y (by first | omega | (simp only [List.length_append, List.length_cons, List.length_nil]; omega)) (fun k => ?_) | fail)
      | refine r_q hG Y Y Y ?_))
    | (show AL _ _ _ _ _ _ _ _; first | refine Be Y Y Y ?_ | (refine Ar ?_; first | show AW _ _ _ _ _ _ | show ∃ x', _ < _ ∧ _)) | (show AW _ _ (.seq _ _) _ _ _; refine Ah ?_; intro Q1) | (show AW _ _ (.region _ _ false) _ _ _; refine Ac ?_; intro O1) | (show AW _ _ (.cond _ _ _) _ _ _; first | refine Am Y ?_ | refine Ao Y ?_) | (show AW _ _ (.skip) _ _ _; refine Ak ?_; first | show AW _ _ _ _ _ _ | show ∃ x', _ < _ ∧ _) | (show AW _ _ (.block _ _) _ _ _; refine Ai ?_; intro Q1) | (show AW _ _ (.exit _) _ _ _; refine A5 ?_; first | show AW _ _ _ _ _ _ | show ∃ x', _ < _ ∧ _) | (show AW _ _ (.ret) _ _ _; refine Aq ?_; try dsimp only [A1, Ab, A0, Af]) | fail)
  refine aw_tok0 3 1 rfl rfl rfl rfl (fun k => ?_)
  refine aw_loop (X := PaX id) (fun x => [(0, .int .u64 x.id'), (3, .sl 1 (.tok x.k) (x.l.map wT)), (4, .int .i64 (20 - x.f : Nat))]) (fun x => ⟨[], [x.k], off, none⟩) (fun x => x.f) ⟨20, Nat.le_refl _, id, h, [], by simp, rfl, k⟩ ?_ (.refl _) ?_
  · exact .cons rfl (.cons rfl (.consW rfl (.int rfl) (.nil _)))
  rintro ⟨f, hf, id', h64, l, hl, hr, k⟩
  dsimp only
  have hr' : pathT id = match pathR f id' l with
      | some l => .sl 1 .no (l.map wT)
      | none => .nilsl := by rw [hr]; rfl
  by_cases hc : id' > 1 ∧ 0 < f
  · obtain ⟨g, rfl⟩ : ∃ g, f = g + 1 := ⟨f - 1, by omega⟩
    by_cases hm : id' % 64 = 0
    · have hz : pathR (g + 1) id' l = none := by rw [pathR, if_pos hc.1, if_pos hm]
      rw [hz] at hr'
      repeat' (first
    | ((show AL _ _ _ _ _ _ _ _; refine Ag Y ?_); (first
      | (show AOp _ _ ⟨_, .move _, _, _, _, _⟩ _ _ _; refine Ap hG Y Y ?_)
      | (show AOp _ _ ⟨_, .assign _, _, _, _, _⟩ _ _ _; refine A2 hG Y Y ?_)
      | (show AOp _ _ ⟨_, .call ⟨.builtin .len, _, _⟩, _, _, _, _⟩ _ _ _; first | refine Ax hG Y Y Y Y ?_ | refine A7 hG Y Y Y Y Y ?_)
      | (show AOp _ _ ⟨_, .binOp .add _ _ _ _, _, _, _, _⟩ _ _ _; first | refine Aj hG Y Y Y Y Y (by omega) ?_)
      | (show AOp _ _ ⟨_, .binOp .rem _ _ _ _, _, _, _, _⟩ _ _ _; first | refine r_rem hG Y Y Y Y (by omega) ?_ | refine r_trem hG Y Y Y Y (by omega) ?_)
      | (show AOp _ _ ⟨_, .binOp _ _ _ _ _, _, _, _, _⟩ _ _ _; first | refine Au hG Y Y Y Y Y (by omega) ?_ | refine As hG Y Y Y Y Y (by omega) ?_ | (refine Av hG Y Y Y Y Y (fun h => ?_) (fun h => ?_)) | refine r_bin' hG Y Y Y ?_)
      | (show AOp _ _ ⟨_, .pick _ _ _, _, _, _, _⟩ _ _ _; refine Bf hG Y Y Y ?_)
      | (show AOp _ _ ⟨_, .buildSlice _ _ _, _, _, _, _⟩ _ _ _; first | refine r_mk (sz := 1) hG Y Y Y Y Y Y Y ?_)
      | (show AOp _ _ ⟨_, .call ⟨.builtin .append, _, _⟩, _, _, _, _⟩ _ _ _; first | refine Bg (sz := 1) (xs := []) hG Y Y Y Y Y Y Y ⟨_, Y⟩ Y Y Y Y Y Y Y (by first | omega | (simp; omega)) (fun k => ?_) | refine Bm 0 hG Y Y Y Y Y Y Y ⟨_, Y⟩ Y Y Y Y Y (by first | omega | (simp only [List.length_append, List.length_cons, List.length_nil]; omega)) (fun k => ?_) | fail)
      | refine r_q hG Y Y Y ?_))
    | (show AL _ _ _ _ _ _ _ _; first | refine Be Y Y Y ?_ | (refine Ar ?_; first | show AW _ _ _ _ _ _ | show ∃ x', _ < _ ∧ _)) | (show AW _ _ (.seq _ _) _ _ _; refine Ah ?_; intro Q1) | (show AW _ _ (.region _ _ false) _ _ _; refine Ac ?_; intro O1) | (show AW _ _ (.cond _ _ _) _ _ _; first | refine Am Y ?_ | refine Ao Y ?_) | (show AW _ _ (.skip) _ _ _; refine Ak ?_; first | show AW _ _ _ _ _ _ | show ∃ x', _ < _ ∧ _) | (show AW _ _ (.block _ _) _ _ _; refine Ai ?_; intro Q1) | (show AW _ _ (.exit _) _ _ _; refine A5 ?_; first | show AW _ _ _ _ _ _ | show ∃ x', _ < _ ∧ _) | (show AW _ _ (.ret) _ _ _; refine Aq ?_; try dsimp only [A1, Ab, A0, Af]) | fail)
      exact Az (Aw rfl Ay) (by rw [hr']; exact .refl _) rfl
    · have hz : pathR (g + 1) id' l = pathR g (id' / 64) (id' :: l) := by rw [pathR, if_pos hc.1, if_neg hm]
      repeat' (first
    | ((show AL _ _ _ _ _ _ _ _; refine Ag Y ?_); (first
      | (show AOp _ _ ⟨_, .move _, _, _, _, _⟩ _ _ _; refine Ap hG Y Y ?_)
      | (show AOp _ _ ⟨_, .assign _, _, _, _, _⟩ _ _ _; refine A2 hG Y Y ?_)
      | (show AOp _ _ ⟨_, .call ⟨.builtin .len, _, _⟩, _, _, _, _⟩ _ _ _; first | refine Ax hG Y Y Y Y ?_ | refine A7 hG Y Y Y Y Y ?_)
      | (show AOp _ _ ⟨_, .binOp .add _ _ _ _, _, _, _, _⟩ _ _ _; first | refine Aj hG Y Y Y Y Y (by omega) ?_)
      | (show AOp _ _ ⟨_, .binOp .rem _ _ _ _, _, _, _, _⟩ _ _ _; first | refine r_rem hG Y Y Y Y (by omega) ?_ | refine r_trem hG Y Y Y Y (by omega) ?_)
      | (show AOp _ _ ⟨_, .binOp _ _ _ _ _, _, _, _, _⟩ _ _ _; first | refine Au hG Y Y Y Y Y (by omega) ?_ | refine As hG Y Y Y Y Y (by omega) ?_ | (refine Av hG Y Y Y Y Y (fun h => ?_) (fun h => ?_)) | refine r_bin' hG Y Y Y ?_)
      | (show AOp _ _ ⟨_, .pick _ _ _, _, _, _, _⟩ _ _ _; refine Bf hG Y Y Y ?_)
      | (show AOp _ _ ⟨_, .buildSlice _ _ _, _, _, _, _⟩ _ _ _; first | refine r_mk (sz := 1) hG Y Y Y Y Y Y Y ?_)
      | (show AOp _ _ ⟨_, .call ⟨.builtin .append, _, _⟩, _, _, _, _⟩ _ _ _; first | refine Bg (sz := 1) (xs := []) hG Y Y Y Y Y Y Y ⟨_, Y⟩ Y Y Y Y Y Y Y (by first | omega | (simp; omega)) (fun k => ?_) | refine Bm 0 hG Y Y Y Y Y Y Y ⟨_, Y⟩ Y Y Y Y Y (by first | omega | (simp only [List.length_append, List.length_cons, List.length_nil]; omega)) (fun k => ?_) | fail)
      | refine r_q hG Y Y Y ?_))
    | (show AL _ _ _ _ _ _ _ _; first | refine Be Y Y Y ?_ | (refine Ar ?_; first | show AW _ _ _ _ _ _ | show ∃ x', _ < _ ∧ _)) | (show AW _ _ (.seq _ _) _ _ _; refine Ah ?_; intro Q1) | (show AW _ _ (.region _ _ false) _ _ _; refine Ac ?_; intro O1) | (show AW _ _ (.cond _ _ _) _ _ _; first | refine Am Y ?_ | refine Ao Y ?_) | (show AW _ _ (.skip) _ _ _; refine Ak ?_; first | show AW _ _ _ _ _ _ | show ∃ x', _ < _ ∧ _) | (show AW _ _ (.block _ _) _ _ _; refine Ai ?_; intro Q1) | (show AW _ _ (.exit _) _ _ _; refine A5 ?_; first | show AW _ _ _ _ _ _ | show ∃ x', _ < _ ∧ _) | (show AW _ _ (.ret) _ _ _; refine Aq ?_; try dsimp only [A1, Ab, A0, Af]) | fail)
      refine Ag rfl (Bg (sz := 1) (f := wT) (xs := [id']) (ys := l) hG rfl rfl rfl rfl rfl rfl rfl ⟨_, rfl⟩ rfl rfl rfl rfl rfl rfl rfl (by simp; omega) (fun k2 => ?_))
      repeat' (first
    | ((show AL _ _ _ _ _ _ _ _; refine Ag Y ?_); (first
      | (show AOp _ _ ⟨_, .move _, _, _, _, _⟩ _ _ _; refine Ap hG Y Y ?_)
      | (show AOp _ _ ⟨_, .assign _, _, _, _, _⟩ _ _ _; refine A2 hG Y Y ?_)
      | (show AOp _ _ ⟨_, .call ⟨.builtin .len, _, _⟩, _, _, _, _⟩ _ _ _; first | refine Ax hG Y Y Y Y ?_ | refine A7 hG Y Y Y Y Y ?_)
      | (show AOp _ _ ⟨_, .binOp .add _ _ _ _, _, _, _, _⟩ _ _ _; first | refine Aj hG Y Y Y Y Y (by omega) ?_)
      | (show AOp _ _ ⟨_, .binOp .rem _ _ _ _, _, _, _, _⟩ _ _ _; first | refine r_rem hG Y Y Y Y (by omega) ?_ | refine r_trem hG Y Y Y Y (by omega) ?_)
      | (show AOp _ _ ⟨_, .binOp _ _ _ _ _, _, _, _, _⟩ _ _ _; first | refine Au hG Y Y Y Y Y (by omega) ?_ | refine As hG Y Y Y Y Y (by omega) ?_ | (refine Av hG Y Y Y Y Y (fun h => ?_) (fun h => ?_)) | refine r_bin' hG Y Y Y ?_)
      | (show AOp _ _ ⟨_, .pick _ _ _, _, _, _, _⟩ _ _ _; refine Bf hG Y Y Y ?_)
      | (show AOp _ _ ⟨_, .buildSlice _ _ _, _, _, _, _⟩ _ _ _; first | refine r_mk (sz := 1) hG Y Y Y Y Y Y Y ?_)
      | (show AOp _ _ ⟨_, .call ⟨.builtin .append, _, _⟩, _, _, _, _⟩ _ _ _; first | refine Bg (sz := 1) (xs := []) hG Y Y Y Y Y Y Y ⟨_, Y⟩ Y Y Y Y Y Y Y (by first | omega | (simp; omega)) (fun k => ?_) | refine Bm 0 hG Y Y Y Y Y Y Y ⟨_, Y⟩ Y Y Y Y Y (by first | omega | (simp only [List.length_append, List.length_cons, List.length_nil]; omega)) (fun k => ?_) | fail)
      | refine r_q hG Y Y Y ?_))
    | (show AL _ _ _ _ _ _ _ _; first | refine Be Y Y Y ?_ | (refine Ar ?_; first | show AW _ _ _ _ _ _ | show ∃ x', _ < _ ∧ _)) | (show AW _ _ (.seq _ _) _ _ _; refine Ah ?_; intro Q1) | (show AW _ _ (.region _ _ false) _ _ _; refine Ac ?_; intro O1) | (show AW _ _ (.cond _ _ _) _ _ _; first | refine Am Y ?_ | refine Ao Y ?_) | (show AW _ _ (.skip) _ _ _; refine Ak ?_; first | show AW _ _ _ _ _ _ | show ∃ x', _ < _ ∧ _) | (show AW _ _ (.block _ _) _ _ _; refine Ai ?_; intro Q1) | (show AW _ _ (.exit _) _ _ _; refine A5 ?_; first | show AW _ _ _ _ _ _ | show ∃ x', _ < _ ∧ _) | (show AW _ _ (.ret) _ _ _; refine Aq ?_; try dsimp only [A1, Ab, A0, Af]) | fail)
      refine ⟨⟨g, by omega, id' / 64, by omega, [id'] ++ l, by simp; omega, by rw [← hr, hz]; rfl, k2⟩, by dsimp only; omega, ?_, drop_tok⟩
      exact .consW rfl (.int (quo64 id' h64)) (.cons rfl (.consW rfl (.int (by dsimp only; omega)) (.nil _)))
  · have hz : pathR f id' l = if id' = 1 ∧ l.length ≤ 6 then some (1 :: l) else none := by
      cases f with
      | zero => rw [pathR]
      | succ g => rw [pathR, if_neg (by omega)]
    rw [hz] at hr'
    by_cases hq : id' = 1 ∧ l.length ≤ 6
    · rw [if_pos hq] at hr'
      repeat' (first
    | ((show AL _ _ _ _ _ _ _ _; refine Ag Y ?_); (first
      | (show AOp _ _ ⟨_, .move _, _, _, _, _⟩ _ _ _; refine Ap hG Y Y ?_)
      | (show AOp _ _ ⟨_, .assign _, _, _, _, _⟩ _ _ _; refine A2 hG Y Y ?_)
      | (show AOp _ _ ⟨_, .call ⟨.builtin .len, _, _⟩, _, _, _, _⟩ _ _ _; first | refine Ax hG Y Y Y Y ?_ | refine A7 hG Y Y Y Y Y ?_)
      | (show AOp _ _ ⟨_, .binOp .add _ _ _ _, _, _, _, _⟩ _ _ _; first | refine Aj hG Y Y Y Y Y (by omega) ?_)
      | (show AOp _ _ ⟨_, .binOp .rem _ _ _ _, _, _, _, _⟩ _ _ _; first | refine r_rem hG Y Y Y Y (by omega) ?_ | refine r_trem hG Y Y Y Y (by omega) ?_)
      | (show AOp _ _ ⟨_, .binOp _ _ _ _ _, _, _, _, _⟩ _ _ _; first | refine Au hG Y Y Y Y Y (by omega) ?_ | refine As hG Y Y Y Y Y (by omega) ?_ | (refine Av hG Y Y Y Y Y (fun h => ?_) (fun h => ?_)) | refine r_bin' hG Y Y Y ?_)
      | (show AOp _ _ ⟨_, .pick _ _ _, _, _, _, _⟩ _ _ _; refine Bf hG Y Y Y ?_)
      | (show AOp _ _ ⟨_, .buildSlice _ _ _, _, _, _, _⟩ _ _ _; first | refine r_mk (sz := 1) hG Y Y Y Y Y Y Y ?_)
      | (show AOp _ _ ⟨_, .call ⟨.builtin .append, _, _⟩, _, _, _, _⟩ _ _ _; first | refine Bg (sz := 1) (xs := []) hG Y Y Y Y Y Y Y ⟨_, Y⟩ Y Y Y Y Y Y Y (by first | omega | (simp; omega)) (fun k => ?_) | refine Bm 0 hG Y Y Y Y Y Y Y ⟨_, Y⟩ Y Y Y Y Y (by first | omega | (simp only [List.length_append, List.length_cons, List.length_nil]; omega)) (fun k => ?_) | fail)
      | refine r_q hG Y Y Y ?_))
    | (show AL _ _ _ _ _ _ _ _; first | refine Be Y Y Y ?_ | (refine Ar ?_; first | show AW _ _ _ _ _ _ | show ∃ x', _ < _ ∧ _)) | (show AW _ _ (.seq _ _) _ _ _; refine Ah ?_; intro Q1) | (show AW _ _ (.region _ _ false) _ _ _; refine Ac ?_; intro O1) | (show AW _ _ (.cond _ _ _) _ _ _; first | refine Am Y ?_ | refine Ao Y ?_) | (show AW _ _ (.skip) _ _ _; refine Ak ?_; first | show AW _ _ _ _ _ _ | show ∃ x', _ < _ ∧ _) | (show AW _ _ (.block _ _) _ _ _; refine Ai ?_; intro Q1) | (show AW _ _ (.exit _) _ _ _; refine A5 ?_; first | show AW _ _ _ _ _ _ | show ∃ x', _ < _ ∧ _) | (show AW _ _ (.ret) _ _ _; refine Aq ?_; try dsimp only [A1, Ab, A0, Af]) | fail)
      refine Ag rfl (Bg (sz := 1) (f := wT) (xs := [1]) (ys := l) hG rfl rfl rfl rfl rfl rfl rfl ⟨_, rfl⟩ rfl rfl rfl rfl rfl rfl rfl (by simp; omega) (fun k2 => ?_))
      repeat' (first
    | ((show AL _ _ _ _ _ _ _ _; refine Ag Y ?_); (first
      | (show AOp _ _ ⟨_, .move _, _, _, _, _⟩ _ _ _; refine Ap hG Y Y ?_)
      | (show AOp _ _ ⟨_, .assign _, _, _, _, _⟩ _ _ _; refine A2 hG Y Y ?_)
      | (show AOp _ _ ⟨_, .call ⟨.builtin .len, _, _⟩, _, _, _, _⟩ _ _ _; first | refine Ax hG Y Y Y Y ?_ | refine A7 hG Y Y Y Y Y ?_)
      | (show AOp _ _ ⟨_, .binOp .add _ _ _ _, _, _, _, _⟩ _ _ _; first | refine Aj hG Y Y Y Y Y (by omega) ?_)
      | (show AOp _ _ ⟨_, .binOp .rem _ _ _ _, _, _, _, _⟩ _ _ _; first | refine r_rem hG Y Y Y Y (by omega) ?_ | refine r_trem hG Y Y Y Y (by omega) ?_)
      | (show AOp _ _ ⟨_, .binOp _ _ _ _ _, _, _, _, _⟩ _ _ _; first | refine Au hG Y Y Y Y Y (by omega) ?_ | refine As hG Y Y Y Y Y (by omega) ?_ | (refine Av hG Y Y Y Y Y (fun h => ?_) (fun h => ?_)) | refine r_bin' hG Y Y Y ?_)
      | (show AOp _ _ ⟨_, .pick _ _ _, _, _, _, _⟩ _ _ _; refine Bf hG Y Y Y ?_)
      | (show AOp _ _ ⟨_, .buildSlice _ _ _, _, _, _, _⟩ _ _ _; first | refine r_mk (sz := 1) hG Y Y Y Y Y Y Y ?_)
      | (show AOp _ _ ⟨_, .call ⟨.builtin .append, _, _⟩, _, _, _, _⟩ _ _ _; first | refine Bg (sz := 1) (xs := []) hG Y Y Y Y Y Y Y ⟨_, Y⟩ Y Y Y Y Y Y Y (by first | omega | (simp; omega)) (fun k => ?_) | refine Bm 0 hG Y Y Y Y Y Y Y ⟨_, Y⟩ Y Y Y Y Y (by first | omega | (simp only [List.length_append, List.length_cons, List.length_nil]; omega)) (fun k => ?_) | fail)
      | refine r_q hG Y Y Y ?_))
    | (show AL _ _ _ _ _ _ _ _; first | refine Be Y Y Y ?_ | (refine Ar ?_; first | show AW _ _ _ _ _ _ | show ∃ x', _ < _ ∧ _)) | (show AW _ _ (.seq _ _) _ _ _; refine Ah ?_; intro Q1) | (show AW _ _ (.region _ _ false) _ _ _; refine Ac ?_; intro O1) | (show AW _ _ (.cond _ _ _) _ _ _; first | refine Am Y ?_ | refine Ao Y ?_) | (show AW _ _ (.skip) _ _ _; refine Ak ?_; first | show AW _ _ _ _ _ _ | show ∃ x', _ < _ ∧ _) | (show AW _ _ (.block _ _) _ _ _; refine Ai ?_; intro Q1) | (show AW _ _ (.exit _) _ _ _; refine A5 ?_; first | show AW _ _ _ _ _ _ | show ∃ x', _ < _ ∧ _) | (show AW _ _ (.ret) _ _ _; refine Aq ?_; try dsimp only [A1, Ab, A0, Af]) | fail)
      exact Az (Aw rfl Ay) (by rw [hr']; exact Wk.own _ _ _) rfl
    · rw [if_neg hq] at hr'
      repeat' (first
    | ((show AL _ _ _ _ _ _ _ _; refine Ag Y ?_); (first
      | (show AOp _ _ ⟨_, .move _, _, _, _, _⟩ _ _ _; refine Ap hG Y Y ?_)
      | (show AOp _ _ ⟨_, .assign _, _, _, _, _⟩ _ _ _; refine A2 hG Y Y ?_)
      | (show AOp _ _ ⟨_, .call ⟨.builtin .len, _, _⟩, _, _, _, _⟩ _ _ _; first | refine Ax hG Y Y Y Y ?_ | refine A7 hG Y Y Y Y Y ?_)
      | (show AOp _ _ ⟨_, .binOp .add _ _ _ _, _, _, _, _⟩ _ _ _; first | refine Aj hG Y Y Y Y Y (by omega) ?_)
      | (show AOp _ _ ⟨_, .binOp .rem _ _ _ _, _, _, _, _⟩ _ _ _; first | refine r_rem hG Y Y Y Y (by omega) ?_ | refine r_trem hG Y Y Y Y (by omega) ?_)
      | (show AOp _ _ ⟨_, .binOp _ _ _ _ _, _, _, _, _⟩ _ _ _; first | refine Au hG Y Y Y Y Y (by omega) ?_ | refine As hG Y Y Y Y Y (by omega) ?_ | (refine Av hG Y Y Y Y Y (fun h => ?_) (fun h => ?_)) | refine r_bin' hG Y Y Y ?_)
      | (show AOp _ _ ⟨_, .pick _ _ _, _, _, _, _⟩ _ _ _; refine Bf hG Y Y Y ?_)
      | (show AOp _ _ ⟨_, .buildSlice _ _ _, _, _, _, _⟩ _ _ _; first | refine r_mk (sz := 1) hG Y Y Y Y Y Y Y ?_)
      | (show AOp _ _ ⟨_, .call ⟨.builtin .append, _, _⟩, _, _, _, _⟩ _ _ _; first | refine Bg (sz := 1) (xs := []) hG Y Y Y Y Y Y Y ⟨_, Y⟩ Y Y Y Y Y Y Y (by first | omega | (simp; omega)) (fun k => ?_) | refine Bm 0 hG Y Y Y Y Y Y Y ⟨_, Y⟩ Y Y Y Y Y (by first | omega | (simp only [List.length_append, List.length_cons, List.length_nil]; omega)) (fun k => ?_) | fail)
      | refine r_q hG Y Y Y ?_))
    | (show AL _ _ _ _ _ _ _ _; first | refine Be Y Y Y ?_ | (refine Ar ?_; first | show AW _ _ _ _ _ _ | show ∃ x', _ < _ ∧ _)) | (show AW _ _ (.seq _ _) _ _ _; refine Ah ?_; intro Q1) | (show AW _ _ (.region _ _ false) _ _ _; refine Ac ?_; intro O1) | (show AW _ _ (.cond _ _ _) _ _ _; first | refine Am Y ?_ | refine Ao Y ?_) | (show AW _ _ (.skip) _ _ _; refine Ak ?_; first | show AW _ _ _ _ _ _ | show ∃ x', _ < _ ∧ _) | (show AW _ _ (.block _ _) _ _ _; refine Ai ?_; intro Q1) | (show AW _ _ (.exit _) _ _ _; refine A5 ?_; first | show AW _ _ _ _ _ _ | show ∃ x', _ < _ ∧ _) | (show AW _ _ (.ret) _ _ _; refine Aq ?_; try dsimp only [A1, Ab, A0, Af]) | fail)
      all_goals exact Az (Aw rfl Ay) (by rw [hr']; exact .refl _) rfl
theorem ref_May14 {id : Nat} (h : id < 18446744073709551616) : Ts.Pure Try.prog 52 [.int .u64 id] (.bool (nameB id)) := by
  intro off
  refine Bd (N := 7) (rs := [.tmp 2]) hG Try.func52 rfl rfl rfl rfl rfl ?_
  have hc := ref_Path h
  rw [← path_name]
  unfold pathT at hc
  cases hp : pathR 20 id [] with
  | none =>
    rw [hp] at hc
    dsimp only at hc
    repeat' (first
    | ((show AL _ _ _ _ _ _ _ _; refine Ag Y ?_); (first
      | (show AOp _ _ ⟨_, .move _, _, _, _, _⟩ _ _ _; refine Ap hG Y Y ?_)
      | (show AOp _ _ ⟨_, .assign _, _, _, _, _⟩ _ _ _; refine A2 hG Y Y ?_)
      | (show AOp _ _ ⟨_, .call ⟨.builtin .len, _, _⟩, _, _, _, _⟩ _ _ _; first | refine Ax hG Y Y Y Y ?_ | refine A7 hG Y Y Y Y Y ?_)
      | (show AOp _ _ ⟨_, .binOp _ _ _ _ _, _, _, _, _⟩ _ _ _; first | refine Au hG Y Y Y Y Y (by omega) ?_ | refine As hG Y Y Y Y Y (by omega) ?_ | (refine Av hG Y Y Y Y Y (fun h => ?_) (fun h => ?_)))
      | (show AOp _ _ ⟨_, .call ⟨.value _, _, _⟩, _, _, _, _⟩ _ _ _; first | refine A6 Y Y Y Y Y (by apply hc <;> (first | assumption | omega | exact Aa _ _ | exact Ae _ | exact Ad _ _ | exact Al _ | rfl | (simp; omega))) ?_ | fail)
      | refine r_q hG Y Y Y ?_))
    | (show AL _ _ _ _ _ _ _ _; first | refine Be Y Y Y ?_ | (refine Ar ?_; first | show AW _ _ _ _ _ _ | show ∃ x', _ < _ ∧ _)) | (show AW _ _ (.seq _ _) _ _ _; refine Ah ?_; intro Q1) | (show AW _ _ (.region _ _ false) _ _ _; refine Ac ?_; intro O1) | (show AW _ _ (.ret) _ _ _; refine Aq ?_; try dsimp only [A1, Ab, A0, Af]) | fail)
    exact Az (Aw rfl Ay) (.refl _) rfl
  | some l =>
    rw [hp] at hc
    dsimp only at hc
    have hl : 0 < l.length := by
      have hq : ∀ f id m l, pathR f id m = some l → 0 < l.length := by
        intro f
        induction f with
        | zero => intro id m l h; rw [pathR] at h; split at h <;> simp at h; subst h; simp
        | succ f ih =>
          intro id m l h
          rw [pathR] at h
          split at h
          · split at h
            · simp at h
            · exact ih _ _ _ h
          · split at h <;> simp at h; subst h; simp
      exact hq _ _ _ _ hp
    repeat' (first
    | ((show AL _ _ _ _ _ _ _ _; refine Ag Y ?_); (first
      | (show AOp _ _ ⟨_, .move _, _, _, _, _⟩ _ _ _; refine Ap hG Y Y ?_)
      | (show AOp _ _ ⟨_, .assign _, _, _, _, _⟩ _ _ _; refine A2 hG Y Y ?_)
      | (show AOp _ _ ⟨_, .call ⟨.builtin .len, _, _⟩, _, _, _, _⟩ _ _ _; first | refine Ax hG Y Y Y Y ?_ | refine A7 hG Y Y Y Y Y ?_)
      | (show AOp _ _ ⟨_, .binOp _ _ _ _ _, _, _, _, _⟩ _ _ _; first | refine Au hG Y Y Y Y Y (by omega) ?_ | refine As hG Y Y Y Y Y (by omega) ?_ | (refine Av hG Y Y Y Y Y (fun h => ?_) (fun h => ?_)))
      | (show AOp _ _ ⟨_, .call ⟨.value _, _, _⟩, _, _, _, _⟩ _ _ _; first | refine A6 Y Y Y Y Y (by apply hc <;> (first | assumption | omega | exact Aa _ _ | exact Ae _ | exact Ad _ _ | exact Al _ | rfl | (simp; omega))) ?_ | fail)
      | refine r_q hG Y Y Y ?_))
    | (show AL _ _ _ _ _ _ _ _; first | refine Be Y Y Y ?_ | (refine Ar ?_; first | show AW _ _ _ _ _ _ | show ∃ x', _ < _ ∧ _)) | (show AW _ _ (.seq _ _) _ _ _; refine Ah ?_; intro Q1) | (show AW _ _ (.region _ _ false) _ _ _; refine Ac ?_; intro O1) | (show AW _ _ (.ret) _ _ _; refine Aq ?_; try dsimp only [A1, Ab, A0, Af]) | fail)
    exact Az (Aw rfl Ay) (.refl _) rfl
end Go.Proofs.Ytemgmkoggnjgjaa
namespace Go.Proofs.Ytemgmkoggnjgjaa
open Go.Ts
set_option linter.unusedSimpArgs false
attribute [local irreducible] Go.Ts.AW Go.Ts.AOps Go.Ts.AL Go.Ts.AOp Go.Ts.ACalls Go.Ts.DL Go.Ts.DQ Go.Ts.EL
theorem take_snoc {α : Type} [Inhabited α] (l : List α) (i : Nat) (h : i < l.length) : l.take (i + 1) = l.take i ++ [l.getD i default] := by
  rw [List.take_add_one, List.getElem?_eq_getElem h, List.getD_eq_getElem?_getD, List.getElem?_eq_getElem h]; rfl
end Go.Proofs.Ytemgmkoggnjgjaa
namespace Go.Proofs.Ytemgmkoggnjgjaa
open Go.Ts
set_option linter.unusedSimpArgs false
set_option linter.unusedVariables false
def mayL (l : List (List UInt8)) : Bool := decide (l.length ≤ 4) && l.all fun b => decide (b.length ≤ 16)
theorem mayL_iff {l : List (List UInt8)} : mayL l = true ↔ l.length ≤ 4 ∧ ∀ b ∈ l, b.length ≤ 16 := by simp [mayL]
def putR (b : List UInt8) (l : List (List UInt8)) : List UInt8 := l.foldl putBs (b ++ putI l.length 1)
def takeLs (b : List UInt8) : Nat → List (List UInt8) → Nat → List (List UInt8) × Nat × Int
  | 0, acc, at' => (acc, at', 0)
  | n + 1, acc, at' => if (takeBE (b.drop at')).2.2 = 0 then takeLs b n (acc ++ [(takeBE (b.drop at')).1]) (at' + (takeBE (b.drop at')).2.1) else ([], 0, 3)
def takeR (b : List UInt8) : List (List UInt8) × Nat × Int :=
  if b.length < 1 then ([], 0, 3)
  else if (takeLs b (beV (b.take 1)) [] 1).2.2 = 0 then (if mayL (takeLs b (beV (b.take 1)) [] 1).1 then takeLs b (beV (b.take 1)) [] 1 else ([], 0, 2)) else ([], 0, 3)
theorem be2 (n : Nat) (h : n < 65536) : putI n 2 = [UInt8.ofNat (n / 256), UInt8.ofNat n] := by
  unfold putI
  rw [if_pos (by omega)]
  simp [be]
def lets (l : List (List UInt8)) : List UInt8 := l.flatMap fun s => putI s.length 2 ++ s
theorem fold_put (l : List (List UInt8)) : ∀ b, l.foldl putBs b = b ++ lets l := by
  induction l with
  | nil => intro b; simp [lets]
  | cons s l ih => intro b; rw [List.foldl_cons, ih]; simp [lets, putBs]
theorem lets_cons (s : List UInt8) (l : List (List UInt8)) : lets (s :: l) = putI s.length 2 ++ s ++ lets l := by simp [lets]
theorem lets_len (l : List (List UInt8)) (h : ∀ b ∈ l, b.length ≤ 16) : (lets l).length ≤ 18 * l.length := by
  induction l with
  | nil => simp [lets]
  | cons s l ih =>
    have h1 := h s List.mem_cons_self
    have h2 := ih fun b hb => h b (List.mem_cons_of_mem _ hb)
    rw [lets_cons, be2 _ (by omega)]
    simp only [List.length_append, List.length_cons, List.length_nil]
    omega
end Go.Proofs.Ytemgmkoggnjgjaa
namespace Go.Proofs.Ytemgmkoggnjgjaa
open Go.Ts
set_option linter.unusedSimpArgs false
set_option linter.unusedVariables false
theorem putI_be (v n : Nat) (h : n ≤ 8) : putI (v : Int) (n : Int) = be v n := by
  unfold putI; rw [if_pos (by omega)]; simp
end Go.Proofs.Ytemgmkoggnjgjaa
namespace Go.Proofs.Ytemgmkoggnjgjaa
open Go.Ts Go.Sets
attribute [local irreducible] Go.Ts.AW Go.Ts.AOps Go.Ts.AL Go.Ts.AOp Go.Ts.ACalls Go.Ts.DL Go.Ts.DQ Go.Ts.EL
structure MSX (a : List UInt16) where
  i : Nat
  hi : 1 ≤ i
  hp : ∀ j, j + 1 < i → j + 1 < a.length → a.getD j default < a.getD (j + 1) default
theorem ref_MaySet {x : T} {a : List UInt16} (hx : catsT x = some a) (hl : a.length ≤ 140737488351232) : Pure Try.prog 53 [x] (.bool (mayC a)) := by
  refine Pure.weak (us := [cT a]) ?_ (wk1 (catsT_wk hx))
  intro off
  refine Bd (N := 23) (rs := [.tmp 2]) hG Try.func53 rfl rfl rfl rfl rfl ?_
  repeat' (first
    | ((first | (show AL _ _ _ _ _ _ _ _; refine Ag Y ?_) | (show DL _ _ _ _ _ _ _; refine' Bo Y Y (fun K kk => ?_) ?_; try (show Go.Ts.T; rotate_left))); (first
      | (show AOp _ _ ⟨_, .move _, _, _, _, _⟩ _ _ _; refine Ap hG Y Y ?_)
      | (show AOp _ _ ⟨_, .assign _, _, _, _, _⟩ _ _ _; refine A2 hG Y Y ?_)
      | (show AOp _ _ ⟨_, .call ⟨.builtin .len, _, _⟩, _, _, _, _⟩ _ _ _; first | refine Ax hG Y Y Y Y ?_ | refine A7 hG Y Y Y Y Y ?_)
      | (show AOp _ _ ⟨_, .binOp .add _ _ _ _, _, _, _, _⟩ _ _ _; first | refine Aj hG Y Y Y Y Y (by omega) ?_)
      | (show AOp _ _ ⟨_, .binOp .sub _ _ _ _, _, _, _, _⟩ _ _ _; first | refine Aj hG Y Y Y Y Y (by omega) ?_)
      | (show AOp _ _ ⟨_, .binOp _ _ _ _ _, _, _, _, _⟩ _ _ _; first | refine Au hG Y Y Y Y Y (by omega) ?_ | refine As hG Y Y Y Y Y (by omega) ?_ | ((fail_if_success have := kk); refine Av hG Y Y Y Y Y (fun h => ?_) (fun h => ?_)))
      | (show AOp _ _ ⟨_, .load _ _, _, _, _, _⟩ _ _ _; first | refine A9 hG Y Y Y ?_ | refine A4 0 hG Y Y Y Y ?_)
      | (show AOp _ _ ⟨_, .indexAddr _ _ _, _, _, _, _⟩ _ _ _; first | refine A8 hG Y Y Y Y Y Y Y (by omega) ?_ | refine Ba hG Y Y Y Y Y Y Y (by omega) ?_ | refine Bj hG Y Y ?_)
      | refine r_q hG Y Y Y ?_); try exact kk)
    | (show AL _ _ _ _ _ _ _ _; first | refine Be Y Y Y ?_ | (refine Ar ?_; first | show AW _ _ _ _ _ _ | show ∃ x', _ < _ ∧ _)) | (show AW _ _ (.seq _ _) _ _ _; refine Ah ?_; intro Q1) | (show AW _ _ (.region _ _ false) _ _ _; refine Ac ?_; intro O1) | (show AW _ _ (.cond _ _ _) _ _ _; first | refine Am Y ?_ | refine Ao Y ?_) | (show AW _ _ (.skip) _ _ _; refine Ak ?_; first | show AW _ _ _ _ _ _ | show ∃ x', _ < _ ∧ _) | (show AW _ _ (.block _ _) _ _ _; refine Ai ?_; intro Q1) | (show AW _ _ (.exit _) _ _ _; refine A5 ?_; first | show AW _ _ _ _ _ _ | show ∃ x', _ < _ ∧ _) | (show AW _ _ (.ret) _ _ _; refine Aq ?_; try dsimp only [A1, Ab, A0, Af])
    | (show DL _ _ _ _ _ _ _; refine dl_d Y Y (fun K kt kf => Av hG Y Y Y Y Y kt kf) (fun h => ?_) (fun h => ?_))
    | (show DL _ _ _ _ _ _ _; refine dl_s Y Y Y ?_) | (show DL _ _ _ _ _ _ _; refine Bt ?_; first | show AW _ _ _ _ _ _ | show ∃ x', _ < _ ∧ _) | (show AW _ _ (.region _ _ true) _ _ _; refine Bh mix (by kernel_rfl) ?_; intro O1) | fail)
  refine aw_loop (X := MSX a) (fun x => [(0, cT a), (3, .int .i64 x.i)]) (fun x => ⟨[], [], off, none⟩) (fun x => a.length - x.i) ⟨1, by omega, fun j h1 h2 => by omega⟩ ?_ (.refl _) ?_
  · exact .cons rfl (.consW rfl (.int rfl) (.nil _))
  rintro ⟨i, hi, hp⟩
  dsimp only
  obtain ⟨i, rfl⟩ : ∃ j, i = j + 1 := ⟨i - 1, by omega⟩
  by_cases hib : i + 1 < a.length
  · have e : (((i + 1 : Nat) : Int) - 1).toNat = i := by omega
    repeat' (first
    | ((first | (show AL _ _ _ _ _ _ _ _; refine Ag Y ?_) | (show DL _ _ _ _ _ _ _; refine' Bo Y Y (fun K kk => ?_) ?_; try (show Go.Ts.T; rotate_left))); (first
      | (show AOp _ _ ⟨_, .move _, _, _, _, _⟩ _ _ _; refine Ap hG Y Y ?_)
      | (show AOp _ _ ⟨_, .assign _, _, _, _, _⟩ _ _ _; refine A2 hG Y Y ?_)
      | (show AOp _ _ ⟨_, .call ⟨.builtin .len, _, _⟩, _, _, _, _⟩ _ _ _; first | refine Ax hG Y Y Y Y ?_ | refine A7 hG Y Y Y Y Y ?_)
      | (show AOp _ _ ⟨_, .binOp .add _ _ _ _, _, _, _, _⟩ _ _ _; first | refine Aj hG Y Y Y Y Y (by omega) ?_)
      | (show AOp _ _ ⟨_, .binOp .sub _ _ _ _, _, _, _, _⟩ _ _ _; first | refine Aj hG Y Y Y Y Y (by omega) ?_)
      | (show AOp _ _ ⟨_, .binOp _ _ _ _ _, _, _, _, _⟩ _ _ _; first | refine Au hG Y Y Y Y Y (by omega) ?_ | refine As hG Y Y Y Y Y (by omega) ?_ | ((fail_if_success have := kk); refine Av hG Y Y Y Y Y (fun h => ?_) (fun h => ?_)))
      | (show AOp _ _ ⟨_, .load _ _, _, _, _, _⟩ _ _ _; first | refine A9 hG Y Y Y ?_ | refine A4 0 hG Y Y Y Y ?_)
      | (show AOp _ _ ⟨_, .indexAddr _ _ _, _, _, _, _⟩ _ _ _; first | refine A8 hG Y Y Y Y Y Y Y (by omega) ?_ | refine Ba hG Y Y Y Y Y Y Y (by omega) ?_ | refine Bj hG Y Y ?_)
      | refine r_q hG Y Y Y ?_); try exact kk)
    | (show AL _ _ _ _ _ _ _ _; first | refine Be Y Y Y ?_ | (refine Ar ?_; first | show AW _ _ _ _ _ _ | show ∃ x', _ < _ ∧ _)) | (show AW _ _ (.seq _ _) _ _ _; refine Ah ?_; intro Q1) | (show AW _ _ (.region _ _ false) _ _ _; refine Ac ?_; intro O1) | (show AW _ _ (.cond _ _ _) _ _ _; first | refine Am Y ?_ | refine Ao Y ?_) | (show AW _ _ (.skip) _ _ _; refine Ak ?_; first | show AW _ _ _ _ _ _ | show ∃ x', _ < _ ∧ _) | (show AW _ _ (.block _ _) _ _ _; refine Ai ?_; intro Q1) | (show AW _ _ (.exit _) _ _ _; refine A5 ?_; first | show AW _ _ _ _ _ _ | show ∃ x', _ < _ ∧ _) | (show AW _ _ (.ret) _ _ _; refine Aq ?_; try dsimp only [A1, Ab, A0, Af])
    | (show DL _ _ _ _ _ _ _; refine dl_d Y Y (fun K kt kf => Av hG Y Y Y Y Y kt kf) (fun h => ?_) (fun h => ?_))
    | (show DL _ _ _ _ _ _ _; refine dl_s Y Y Y ?_) | (show DL _ _ _ _ _ _ _; refine Bt ?_; first | show AW _ _ _ _ _ _ | show ∃ x', _ < _ ∧ _) | (show AW _ _ (.region _ _ true) _ _ _; refine Bh mix (by kernel_rfl) ?_; intro O1) | fail)
    · rw [e] at h
      refine Az (Aw rfl Ay) (.eq ?_) rfl
      have : risesB a = false := Bool.eq_false_iff.2 fun hr => by
        have := (rises_adj a).1 hr i hib
        rw [UInt16.lt_iff_toNat_lt] at this; omega
      rw [mayC, this, Bool.and_false]; rfl
    · rw [e] at h
      refine ⟨⟨i + 2, by omega, fun j h1 h2 => ?_⟩, by dsimp only; omega, ?_, .refl _⟩
      · by_cases hj : j + 1 < i + 1
        · exact hp j hj h2
        · obtain rfl : j = i := by omega
          rw [UInt16.lt_iff_toNat_lt]; omega
      · exact .cons rfl (.consW rfl (.int (by simp; omega)) (.nil _))
  · have : risesB a = true := (rises_adj a).2 fun j hj => hp j (by omega) hj
    by_cases h16 : a.length ≤ 16
    · repeat' (first
    | ((first | (show AL _ _ _ _ _ _ _ _; refine Ag Y ?_) | (show DL _ _ _ _ _ _ _; refine' Bo Y Y (fun K kk => ?_) ?_; try (show Go.Ts.T; rotate_left))); (first
      | (show AOp _ _ ⟨_, .move _, _, _, _, _⟩ _ _ _; refine Ap hG Y Y ?_)
      | (show AOp _ _ ⟨_, .assign _, _, _, _, _⟩ _ _ _; refine A2 hG Y Y ?_)
      | (show AOp _ _ ⟨_, .call ⟨.builtin .len, _, _⟩, _, _, _, _⟩ _ _ _; first | refine Ax hG Y Y Y Y ?_ | refine A7 hG Y Y Y Y Y ?_)
      | (show AOp _ _ ⟨_, .binOp .add _ _ _ _, _, _, _, _⟩ _ _ _; first | refine Aj hG Y Y Y Y Y (by omega) ?_)
      | (show AOp _ _ ⟨_, .binOp .sub _ _ _ _, _, _, _, _⟩ _ _ _; first | refine Aj hG Y Y Y Y Y (by omega) ?_)
      | (show AOp _ _ ⟨_, .binOp _ _ _ _ _, _, _, _, _⟩ _ _ _; first | refine Au hG Y Y Y Y Y (by omega) ?_ | refine As hG Y Y Y Y Y (by omega) ?_ | ((fail_if_success have := kk); refine Av hG Y Y Y Y Y (fun h => ?_) (fun h => ?_)))
      | (show AOp _ _ ⟨_, .load _ _, _, _, _, _⟩ _ _ _; first | refine A9 hG Y Y Y ?_ | refine A4 0 hG Y Y Y Y ?_)
      | (show AOp _ _ ⟨_, .indexAddr _ _ _, _, _, _, _⟩ _ _ _; first | refine A8 hG Y Y Y Y Y Y Y (by omega) ?_ | refine Ba hG Y Y Y Y Y Y Y (by omega) ?_ | refine Bj hG Y Y ?_)
      | refine r_q hG Y Y Y ?_); try exact kk)
    | (show AL _ _ _ _ _ _ _ _; first | refine Be Y Y Y ?_ | (refine Ar ?_; first | show AW _ _ _ _ _ _ | show ∃ x', _ < _ ∧ _)) | (show AW _ _ (.seq _ _) _ _ _; refine Ah ?_; intro Q1) | (show AW _ _ (.region _ _ false) _ _ _; refine Ac ?_; intro O1) | (show AW _ _ (.cond _ _ _) _ _ _; first | refine Am Y ?_ | refine Ao Y ?_) | (show AW _ _ (.skip) _ _ _; refine Ak ?_; first | show AW _ _ _ _ _ _ | show ∃ x', _ < _ ∧ _) | (show AW _ _ (.block _ _) _ _ _; refine Ai ?_; intro Q1) | (show AW _ _ (.exit _) _ _ _; refine A5 ?_; first | show AW _ _ _ _ _ _ | show ∃ x', _ < _ ∧ _) | (show AW _ _ (.ret) _ _ _; refine Aq ?_; try dsimp only [A1, Ab, A0, Af])
    | (show DL _ _ _ _ _ _ _; refine dl_d Y Y (fun K kt kf => Av hG Y Y Y Y Y kt kf) (fun h => ?_) (fun h => ?_))
    | (show DL _ _ _ _ _ _ _; refine dl_s Y Y Y ?_) | (show DL _ _ _ _ _ _ _; refine Bt ?_; first | show AW _ _ _ _ _ _ | show ∃ x', _ < _ ∧ _) | (show AW _ _ (.region _ _ true) _ _ _; refine Bh mix (by kernel_rfl) ?_; intro O1) | fail)
      refine Az (Aw rfl Ay) (.eq ?_) rfl
      rw [mayC, this, Bool.and_true, decide_eq_true h16]; rfl
    · repeat' (first
    | ((first | (show AL _ _ _ _ _ _ _ _; refine Ag Y ?_) | (show DL _ _ _ _ _ _ _; refine' Bo Y Y (fun K kk => ?_) ?_; try (show Go.Ts.T; rotate_left))); (first
      | (show AOp _ _ ⟨_, .move _, _, _, _, _⟩ _ _ _; refine Ap hG Y Y ?_)
      | (show AOp _ _ ⟨_, .assign _, _, _, _, _⟩ _ _ _; refine A2 hG Y Y ?_)
      | (show AOp _ _ ⟨_, .call ⟨.builtin .len, _, _⟩, _, _, _, _⟩ _ _ _; first | refine Ax hG Y Y Y Y ?_ | refine A7 hG Y Y Y Y Y ?_)
      | (show AOp _ _ ⟨_, .binOp .add _ _ _ _, _, _, _, _⟩ _ _ _; first | refine Aj hG Y Y Y Y Y (by omega) ?_)
      | (show AOp _ _ ⟨_, .binOp .sub _ _ _ _, _, _, _, _⟩ _ _ _; first | refine Aj hG Y Y Y Y Y (by omega) ?_)
      | (show AOp _ _ ⟨_, .binOp _ _ _ _ _, _, _, _, _⟩ _ _ _; first | refine Au hG Y Y Y Y Y (by omega) ?_ | refine As hG Y Y Y Y Y (by omega) ?_ | ((fail_if_success have := kk); refine Av hG Y Y Y Y Y (fun h => ?_) (fun h => ?_)))
      | (show AOp _ _ ⟨_, .load _ _, _, _, _, _⟩ _ _ _; first | refine A9 hG Y Y Y ?_ | refine A4 0 hG Y Y Y Y ?_)
      | (show AOp _ _ ⟨_, .indexAddr _ _ _, _, _, _, _⟩ _ _ _; first | refine A8 hG Y Y Y Y Y Y Y (by omega) ?_ | refine Ba hG Y Y Y Y Y Y Y (by omega) ?_ | refine Bj hG Y Y ?_)
      | refine r_q hG Y Y Y ?_); try exact kk)
    | (show AL _ _ _ _ _ _ _ _; first | refine Be Y Y Y ?_ | (refine Ar ?_; first | show AW _ _ _ _ _ _ | show ∃ x', _ < _ ∧ _)) | (show AW _ _ (.seq _ _) _ _ _; refine Ah ?_; intro Q1) | (show AW _ _ (.region _ _ false) _ _ _; refine Ac ?_; intro O1) | (show AW _ _ (.cond _ _ _) _ _ _; first | refine Am Y ?_ | refine Ao Y ?_) | (show AW _ _ (.skip) _ _ _; refine Ak ?_; first | show AW _ _ _ _ _ _ | show ∃ x', _ < _ ∧ _) | (show AW _ _ (.block _ _) _ _ _; refine Ai ?_; intro Q1) | (show AW _ _ (.exit _) _ _ _; refine A5 ?_; first | show AW _ _ _ _ _ _ | show ∃ x', _ < _ ∧ _) | (show AW _ _ (.ret) _ _ _; refine Aq ?_; try dsimp only [A1, Ab, A0, Af])
    | (show DL _ _ _ _ _ _ _; refine dl_d Y Y (fun K kt kf => Av hG Y Y Y Y Y kt kf) (fun h => ?_) (fun h => ?_))
    | (show DL _ _ _ _ _ _ _; refine dl_s Y Y Y ?_) | (show DL _ _ _ _ _ _ _; refine Bt ?_; first | show AW _ _ _ _ _ _ | show ∃ x', _ < _ ∧ _) | (show AW _ _ (.region _ _ true) _ _ _; refine Bh mix (by kernel_rfl) ?_; intro O1) | fail)
      refine Az (Aw rfl Ay) (.eq ?_) rfl
      rw [mayC, decide_eq_false h16]; rfl

end Go.Proofs.Ytemgmkoggnjgjaa
namespace Go.Proofs.Ytemgmkoggnjgjaa
open Go.Ts Go.Sets
attribute [local irreducible] Go.Ts.AW Go.Ts.AOps Go.Ts.AL Go.Ts.AOp Go.Ts.ACalls Go.Ts.DL Go.Ts.DQ Go.Ts.EL
theorem putI1 (n : Nat) : putI n 1 = [UInt8.ofNat n] := by rw [putI, if_pos (by omega)]; simp [be]
theorem ref_PutSet {x y : T} {b : List UInt8} {a : List UInt16} (hx : bytesT x = some b) (hy : catsT y = some a) (hl : b.length ≤ 4294000000) (hs : a.length ≤ 255) :
    Owns Try.prog 50 [x, y] 1 ((putC b a).map bT) := by
  refine Owns.weak (us := [sT b, cT a]) ?_ (wk2 (bytesT_wk hx) (catsT_wk hy))
  intro off
  refine Bd (N := 28) (rs := [.tmp 4]) hG Try.func50 rfl rfl rfl rfl rfl ?_
  repeat' (first
    | ((show AL _ _ _ _ _ _ _ _; refine Ag Y ?_); (first
      | (show AOp _ _ ⟨_, .move _, _, _, _, _⟩ _ _ _; refine Ap hG Y Y ?_)
      | (show AOp _ _ ⟨_, .assign _, _, _, _, _⟩ _ _ _; refine A2 hG Y Y ?_)
      | (show AOp _ _ ⟨_, .call ⟨.builtin .len, _, _⟩, _, _, _, _⟩ _ _ _; first | refine Ax hG Y Y Y Y ?_ | refine A7 hG Y Y Y Y Y ?_)
      | (show AOp _ _ ⟨_, .binOp .add _ _ _ _, _, _, _, _⟩ _ _ _; first | refine Aj hG Y Y Y Y Y (by omega) ?_)
      | (show AOp _ _ ⟨_, .binOp _ _ _ _ _, _, _, _, _⟩ _ _ _; first | refine Au hG Y Y Y Y Y (by omega) ?_ | refine As hG Y Y Y Y Y (by omega) ?_ | (refine Av hG Y Y Y Y Y (fun h => ?_) (fun h => ?_)))
      | (show AOp _ _ ⟨_, .load _ _, _, _, _, _⟩ _ _ _; first | refine A9 hG Y Y Y ?_ | refine A4 0 hG Y Y Y Y ?_)
      | (show AOp _ _ ⟨_, .indexAddr _ _ _, _, _, _, _⟩ _ _ _; first | refine A8 hG Y Y Y Y Y Y Y (by omega) ?_ | refine Ba hG Y Y Y Y Y Y Y (by omega) ?_ | refine Bj hG Y Y ?_)
      | (show AOp _ _ ⟨_, .convert _ _ _, _, _, _, _⟩ _ _ _; first | refine r_cv16 hG Y Y Y Y Y Y ?_ | refine Bi hG Y Y Y Y Y (by omega) ?_ | refine By hG Y Y Y Y Y (by omega) ?_ | refine Bv hG Y Y Y Y Y ?_)
      | (show AOp _ _ ⟨_, .buildSlice _ _ _, _, _, _, _⟩ _ _ _; first | refine r_mk (sz := 1) hG Y Y Y Y Y Y Y ?_)
      | (show AOp _ _ ⟨_, .call ⟨.builtin .append, _, _⟩, _, _, _, _⟩ _ _ _; first | refine Bg (sz := 1) (xs := []) hG Y Y Y Y Y Y Y ⟨_, Y⟩ Y Y Y Y Y Y Y (by first | omega | (simp; omega)) (fun k => ?_) | refine Bm 0 hG Y Y Y Y Y Y Y ⟨_, Y⟩ Y Y Y Y Y (by first | omega | (simp only [List.length_append, List.length_cons, List.length_nil]; omega)) (fun k => ?_) | fail)
      | refine r_q hG Y Y Y ?_))
    | (show AL _ _ _ _ _ _ _ _; first | refine Be Y Y Y ?_ | (refine Ar ?_; first | show AW _ _ _ _ _ _ | show ∃ x', _ < _ ∧ _)) | (show AW _ _ (.seq _ _) _ _ _; refine Ah ?_; intro Q1) | (show AW _ _ (.region _ _ false) _ _ _; refine Ac ?_; intro O1) | (show AW _ _ (.cond _ _ _) _ _ _; first | refine Am Y ?_ | refine Ao Y ?_) | (show AW _ _ (.skip) _ _ _; refine Ak ?_; first | show AW _ _ _ _ _ _ | show ∃ x', _ < _ ∧ _) | (show AW _ _ (.block _ _) _ _ _; refine Ai ?_; intro Q1) | (show AW _ _ (.exit _) _ _ _; refine A5 ?_; first | show AW _ _ _ _ _ _ | show ∃ x', _ < _ ∧ _) | (show AW _ _ (.ret) _ _ _; refine Aq ?_; try dsimp only [A1, Ab, A0, Af]) | fail)
  have hb1 : T.int .u8 (a.length : Int) = bT (UInt8.ofNat a.length) := by
    unfold bT; congr 1; simp; omega
  refine Ag rfl (Bm 0 (ys := [UInt8.ofNat a.length]) hG rfl rfl rfl rfl rfl rfl rfl ⟨_, rfl⟩ rfl rfl rfl rfl (congrArg (fun t => [t]) hb1) (by simp; omega) (fun k' => ?_))
  repeat' (first
    | ((show AL _ _ _ _ _ _ _ _; refine Ag Y ?_); (first
      | (show AOp _ _ ⟨_, .move _, _, _, _, _⟩ _ _ _; refine Ap hG Y Y ?_)
      | (show AOp _ _ ⟨_, .assign _, _, _, _, _⟩ _ _ _; refine A2 hG Y Y ?_)
      | (show AOp _ _ ⟨_, .call ⟨.builtin .len, _, _⟩, _, _, _, _⟩ _ _ _; first | refine Ax hG Y Y Y Y ?_ | refine A7 hG Y Y Y Y Y ?_)
      | (show AOp _ _ ⟨_, .binOp .add _ _ _ _, _, _, _, _⟩ _ _ _; first | refine Aj hG Y Y Y Y Y (by omega) ?_)
      | (show AOp _ _ ⟨_, .binOp _ _ _ _ _, _, _, _, _⟩ _ _ _; first | refine Au hG Y Y Y Y Y (by omega) ?_ | refine As hG Y Y Y Y Y (by omega) ?_ | (refine Av hG Y Y Y Y Y (fun h => ?_) (fun h => ?_)))
      | (show AOp _ _ ⟨_, .load _ _, _, _, _, _⟩ _ _ _; first | refine A9 hG Y Y Y ?_ | refine A4 0 hG Y Y Y Y ?_)
      | (show AOp _ _ ⟨_, .indexAddr _ _ _, _, _, _, _⟩ _ _ _; first | refine A8 hG Y Y Y Y Y Y Y (by omega) ?_ | refine Ba hG Y Y Y Y Y Y Y (by omega) ?_ | refine Bj hG Y Y ?_)
      | (show AOp _ _ ⟨_, .convert _ _ _, _, _, _, _⟩ _ _ _; first | refine r_cv16 hG Y Y Y Y Y Y ?_ | refine Bi hG Y Y Y Y Y (by omega) ?_ | refine By hG Y Y Y Y Y (by omega) ?_ | refine Bv hG Y Y Y Y Y ?_)
      | (show AOp _ _ ⟨_, .buildSlice _ _ _, _, _, _, _⟩ _ _ _; first | refine r_mk (sz := 1) hG Y Y Y Y Y Y Y ?_)
      | (show AOp _ _ ⟨_, .call ⟨.builtin .append, _, _⟩, _, _, _, _⟩ _ _ _; first | refine Bg (sz := 1) (xs := []) hG Y Y Y Y Y Y Y ⟨_, Y⟩ Y Y Y Y Y Y Y (by first | omega | (simp; omega)) (fun k => ?_) | refine Bm 0 hG Y Y Y Y Y Y Y ⟨_, Y⟩ Y Y Y Y Y (by first | omega | (simp only [List.length_append, List.length_cons, List.length_nil]; omega)) (fun k => ?_) | fail)
      | refine r_q hG Y Y Y ?_))
    | (show AL _ _ _ _ _ _ _ _; first | refine Be Y Y Y ?_ | (refine Ar ?_; first | show AW _ _ _ _ _ _ | show ∃ x', _ < _ ∧ _)) | (show AW _ _ (.seq _ _) _ _ _; refine Ah ?_; intro Q1) | (show AW _ _ (.region _ _ false) _ _ _; refine Ac ?_; intro O1) | (show AW _ _ (.cond _ _ _) _ _ _; first | refine Am Y ?_ | refine Ao Y ?_) | (show AW _ _ (.skip) _ _ _; refine Ak ?_; first | show AW _ _ _ _ _ _ | show ∃ x', _ < _ ∧ _) | (show AW _ _ (.block _ _) _ _ _; refine Ai ?_; intro Q1) | (show AW _ _ (.exit _) _ _ _; refine A5 ?_; first | show AW _ _ _ _ _ _ | show ∃ x', _ < _ ∧ _) | (show AW _ _ (.ret) _ _ _; refine Aq ?_; try dsimp only [A1, Ab, A0, Af]) | fail)
  refine aw_loop (X := CPX a) (fun x => [(1, cT a), (5, .int .i64 x.i), (0, .sl 1 (.tok x.k) ((b ++ putI a.length 1 ++ (a.take x.i).flatMap fun c => putI c.toNat 2).map bT))]) (fun x => ⟨[], [x.k], off, none⟩) (fun x => a.length - x.i) ⟨0, k', Nat.zero_le _⟩ ?_ (.refl _) ?_
  · exact .cons rfl (.consW rfl (.int rfl) (.consW rfl (.eq (by rw [putI1]; simp)) (.nil _)))
  rintro ⟨i, k, hi⟩
  dsimp only
  have hpl := putI_le a.length 1
  have hf := flat2_length (a.take i)
  have htl : (a.take i).length = i := by rw [List.length_take]; omega
  by_cases hib : i < a.length
  · have hft := flatMap_take a (fun c => putI c.toNat 2) i hib
    have hlen : (b ++ putI a.length 1 ++ (a.take i).flatMap fun c => putI c.toNat 2).length ≤ 4294967000 := by rw [List.length_append, List.length_append]; omega
    repeat' (first
    | ((show AL _ _ _ _ _ _ _ _; refine Ag Y ?_); (first
      | (show AOp _ _ ⟨_, .move _, _, _, _, _⟩ _ _ _; refine Ap hG Y Y ?_)
      | (show AOp _ _ ⟨_, .assign _, _, _, _, _⟩ _ _ _; refine A2 hG Y Y ?_)
      | (show AOp _ _ ⟨_, .call ⟨.builtin .len, _, _⟩, _, _, _, _⟩ _ _ _; first | refine Ax hG Y Y Y Y ?_ | refine A7 hG Y Y Y Y Y ?_)
      | (show AOp _ _ ⟨_, .binOp .add _ _ _ _, _, _, _, _⟩ _ _ _; first | refine Aj hG Y Y Y Y Y (by omega) ?_)
      | (show AOp _ _ ⟨_, .binOp _ _ _ _ _, _, _, _, _⟩ _ _ _; first | refine Au hG Y Y Y Y Y (by omega) ?_ | refine As hG Y Y Y Y Y (by omega) ?_ | (refine Av hG Y Y Y Y Y (fun h => ?_) (fun h => ?_)))
      | (show AOp _ _ ⟨_, .load _ _, _, _, _, _⟩ _ _ _; first | refine A9 hG Y Y Y ?_ | refine A4 0 hG Y Y Y Y ?_)
      | (show AOp _ _ ⟨_, .indexAddr _ _ _, _, _, _, _⟩ _ _ _; first | refine A8 hG Y Y Y Y Y Y Y (by omega) ?_ | refine Ba hG Y Y Y Y Y Y Y (by omega) ?_ | refine Bj hG Y Y ?_)
      | (show AOp _ _ ⟨_, .convert _ _ _, _, _, _, _⟩ _ _ _; first | refine r_cv16 hG Y Y Y Y Y Y ?_ | refine Bi hG Y Y Y Y Y (by omega) ?_ | refine By hG Y Y Y Y Y (by omega) ?_ | refine Bv hG Y Y Y Y Y ?_)
      | (show AOp _ _ ⟨_, .buildSlice _ _ _, _, _, _, _⟩ _ _ _; first | refine r_mk (sz := 1) hG Y Y Y Y Y Y Y ?_)
      | (show AOp _ _ ⟨_, .call ⟨.builtin .append, _, _⟩, _, _, _, _⟩ _ _ _; first | refine Bg (sz := 1) (xs := []) hG Y Y Y Y Y Y Y ⟨_, Y⟩ Y Y Y Y Y Y Y (by first | omega | (simp; omega)) (fun k => ?_) | refine Bm 0 hG Y Y Y Y Y Y Y ⟨_, Y⟩ Y Y Y Y Y (by first | omega | (simp only [List.length_append, List.length_cons, List.length_nil]; omega)) (fun k => ?_) | fail)
      | (show AOp _ _ ⟨_, .call ⟨.value _, _, _⟩, _, _, _, _⟩ _ _ _; first | (refine r_owns Y Y Y Y Y (by apply ref_Put <;> (first | assumption | omega | exact Aa _ _ | exact Ae _ | exact Ad _ _ | exact Al _ | rfl | (simp; omega))) (fun k => ?_)) | (have := kk; clear this; refine A6 Y Y Y Y Y (Owns.pure (by apply ref_Put <;> (first | assumption | omega | exact Aa _ _ | exact Ae _ | exact Ad _ _ | exact Al _ | rfl | (simp; omega)))) ?_) | fail)
      | refine r_q hG Y Y Y ?_))
    | (show AL _ _ _ _ _ _ _ _; first | refine Be Y Y Y ?_ | (refine Ar ?_; first | show AW _ _ _ _ _ _ | show ∃ x', _ < _ ∧ _)) | (show AW _ _ (.seq _ _) _ _ _; refine Ah ?_; intro Q1) | (show AW _ _ (.region _ _ false) _ _ _; refine Ac ?_; intro O1) | (show AW _ _ (.cond _ _ _) _ _ _; first | refine Am Y ?_ | refine Ao Y ?_) | (show AW _ _ (.skip) _ _ _; refine Ak ?_; first | show AW _ _ _ _ _ _ | show ∃ x', _ < _ ∧ _) | (show AW _ _ (.block _ _) _ _ _; refine Ai ?_; intro Q1) | (show AW _ _ (.exit _) _ _ _; refine A5 ?_; first | show AW _ _ _ _ _ _ | show ∃ x', _ < _ ∧ _) | (show AW _ _ (.ret) _ _ _; refine Aq ?_; try dsimp only [A1, Ab, A0, Af]) | fail)
    refine ⟨⟨i + 1, _, by omega⟩, by dsimp only; omega, ?_, drop_tok⟩
    exact .cons rfl (.consW rfl (.int (by simp)) (.consW rfl (.eq (by rw [hft]; simp)) (.nil _)))
  · obtain rfl : i = a.length := by omega
    repeat' (first
    | ((show AL _ _ _ _ _ _ _ _; refine Ag Y ?_); (first
      | (show AOp _ _ ⟨_, .move _, _, _, _, _⟩ _ _ _; refine Ap hG Y Y ?_)
      | (show AOp _ _ ⟨_, .assign _, _, _, _, _⟩ _ _ _; refine A2 hG Y Y ?_)
      | (show AOp _ _ ⟨_, .call ⟨.builtin .len, _, _⟩, _, _, _, _⟩ _ _ _; first | refine Ax hG Y Y Y Y ?_ | refine A7 hG Y Y Y Y Y ?_)
      | (show AOp _ _ ⟨_, .binOp .add _ _ _ _, _, _, _, _⟩ _ _ _; first | refine Aj hG Y Y Y Y Y (by omega) ?_)
      | (show AOp _ _ ⟨_, .binOp _ _ _ _ _, _, _, _, _⟩ _ _ _; first | refine Au hG Y Y Y Y Y (by omega) ?_ | refine As hG Y Y Y Y Y (by omega) ?_ | (refine Av hG Y Y Y Y Y (fun h => ?_) (fun h => ?_)))
      | (show AOp _ _ ⟨_, .load _ _, _, _, _, _⟩ _ _ _; first | refine A9 hG Y Y Y ?_ | refine A4 0 hG Y Y Y Y ?_)
      | (show AOp _ _ ⟨_, .indexAddr _ _ _, _, _, _, _⟩ _ _ _; first | refine A8 hG Y Y Y Y Y Y Y (by omega) ?_ | refine Ba hG Y Y Y Y Y Y Y (by omega) ?_ | refine Bj hG Y Y ?_)
      | (show AOp _ _ ⟨_, .convert _ _ _, _, _, _, _⟩ _ _ _; first | refine r_cv16 hG Y Y Y Y Y Y ?_ | refine Bi hG Y Y Y Y Y (by omega) ?_ | refine By hG Y Y Y Y Y (by omega) ?_ | refine Bv hG Y Y Y Y Y ?_)
      | (show AOp _ _ ⟨_, .buildSlice _ _ _, _, _, _, _⟩ _ _ _; first | refine r_mk (sz := 1) hG Y Y Y Y Y Y Y ?_)
      | (show AOp _ _ ⟨_, .call ⟨.builtin .append, _, _⟩, _, _, _, _⟩ _ _ _; first | refine Bg (sz := 1) (xs := []) hG Y Y Y Y Y Y Y ⟨_, Y⟩ Y Y Y Y Y Y Y (by first | omega | (simp; omega)) (fun k => ?_) | refine Bm 0 hG Y Y Y Y Y Y Y ⟨_, Y⟩ Y Y Y Y Y (by first | omega | (simp only [List.length_append, List.length_cons, List.length_nil]; omega)) (fun k => ?_) | fail)
      | refine r_q hG Y Y Y ?_))
    | (show AL _ _ _ _ _ _ _ _; first | refine Be Y Y Y ?_ | (refine Ar ?_; first | show AW _ _ _ _ _ _ | show ∃ x', _ < _ ∧ _)) | (show AW _ _ (.seq _ _) _ _ _; refine Ah ?_; intro Q1) | (show AW _ _ (.region _ _ false) _ _ _; refine Ac ?_; intro O1) | (show AW _ _ (.cond _ _ _) _ _ _; first | refine Am Y ?_ | refine Ao Y ?_) | (show AW _ _ (.skip) _ _ _; refine Ak ?_; first | show AW _ _ _ _ _ _ | show ∃ x', _ < _ ∧ _) | (show AW _ _ (.block _ _) _ _ _; refine Ai ?_; intro Q1) | (show AW _ _ (.exit _) _ _ _; refine A5 ?_; first | show AW _ _ _ _ _ _ | show ∃ x', _ < _ ∧ _) | (show AW _ _ (.ret) _ _ _; refine Aq ?_; try dsimp only [A1, Ab, A0, Af]) | fail)
    exact ret_owns 0 (Aw rfl Ay) rfl (by rw [putC, List.take_length]) rfl

end Go.Proofs.Ytemgmkoggnjgjaa
namespace Go.Proofs.Ytemgmkoggnjgjaa
open Go.Ts Go.Sets
attribute [local irreducible] Go.Ts.AW Go.Ts.AOps Go.Ts.AL Go.Ts.AOp Go.Ts.ACalls Go.Ts.DL Go.Ts.DQ Go.Ts.EL
theorem mayC_le {a : List UInt16} (h : mayC a = true) : a.length ≤ 16 := by
  unfold mayC at h; rw [Bool.and_eq_true, decide_eq_true_eq] at h; exact h.1
end Go.Proofs.Ytemgmkoggnjgjaa
namespace Go.Proofs.Ytemgmkoggnjgjaa
open Go.Ts
set_option linter.unusedSimpArgs false
set_option linter.unusedVariables false
abbrev PR := UInt16 × UInt8
def pT (p : PR) : T := .agg [hT p.1, bT p.2]
instance : Enc pT 2 := ⟨fun x c h => by simp [pT, T.cells] at h; rcases h with rfl | rfl <;> rfl, fun x => rfl⟩
def okP (df : UInt8) (p : PR) : Bool := decide (p.2.toNat ≤ 4) && decide (p.2 ≠ df)
def okAt (df : UInt8) (l : List PR) (i : Nat) : Bool := okP df (l.getD i default) && (decide (i = 0) || decide ((l.getD (i - 1) default).1.toNat < (l.getD i default).1.toNat))
def mayLab (df : UInt8) (l : List PR) : Bool := decide (1 ≤ df.toNat ∧ df.toNat ≤ 4) && decide (l.length ≤ 16) && (List.range l.length).all (okAt df l)
def noStar (l : List PR) : Bool := l.all fun p => decide (p.2.toNat ≠ 0)
theorem mayLab_len {df : UInt8} {l : List PR} (h : mayLab df l = true) : l.length ≤ 16 ∧ 1 ≤ df.toNat ∧ df.toNat ≤ 4 := by
  unfold mayLab at h; simp only [Bool.and_eq_true, decide_eq_true_eq] at h; exact ⟨h.1.2, h.1.1⟩
def putP (p : PR) : List UInt8 := putI (p.1.toNat : Nat) (2 : Nat) ++ putI (p.2.toNat : Nat) (1 : Nat)
theorem putP_eq (p : PR) : putP p = be p.1.toNat 2 ++ [p.2] := by
  unfold putP
  rw [putI_be _ _ (by omega), putI_be _ _ (by omega)]
  simp [be]
theorem putP_len (p : PR) : (putP p).length = 3 := by rw [putP_eq, List.length_append, be_length]; rfl
def flatP (l : List PR) : List UInt8 := l.flatMap putP
theorem flatP_cons (p : PR) (l : List PR) : flatP (p :: l) = putP p ++ flatP l := by simp [flatP]
theorem flatP_len : ∀ l : List PR, (flatP l).length = 3 * l.length
  | [] => rfl
  | p :: l => by rw [flatP_cons, List.length_append, putP_len, flatP_len l, List.length_cons]; omega
def putLab (b : List UInt8) (df : UInt8) (l : List PR) : List UInt8 := b ++ putI (df.toNat : Nat) (1 : Nat) ++ putI (l.length : Nat) (1 : Nat) ++ flatP l
theorem putLab_eq (b : List UInt8) (df : UInt8) (l : List PR) (h : l.length < 256) : putLab b df l = b ++ (df :: UInt8.ofNat l.length :: flatP l) := by
  unfold putLab
  rw [putI_be _ _ (by omega), putI_be _ _ (by omega)]
  simp [be]
end Go.Proofs.Ytemgmkoggnjgjaa
