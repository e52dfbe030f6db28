/- scode.Take, and the document's answer to it. -/
import Derived.Test.YtholeicgmkjadaaS8
namespace Go.Proofs.Ytholeicgmkjadaa
open Go.Ts Go.Sets
attribute [local irreducible] Go.Ts.AW Go.Ts.AOps Go.Ts.AL Go.Ts.AOp Go.Ts.ACalls Go.Ts.DL Go.Ts.DQ Go.Ts.EL
structure TakenS where
  a : List UInt16
  b : List UInt16
  c : List UInt16
  n : Nat
  e : Int
def takeS (s : List UInt8) : TakenS :=
  if (takeC s).2.2 ≠ 0 then ⟨[], [], [], 0, (takeC s).2.2⟩
  else if (takeC (s.drop (takeC s).2.1)).2.2 ≠ 0 then ⟨[], [], [], 0, (takeC (s.drop (takeC s).2.1)).2.2⟩
  else if (takeC (s.drop ((takeC s).2.1 + (takeC (s.drop (takeC s).2.1)).2.1))).2.2 ≠ 0 then ⟨[], [], [], 0, (takeC (s.drop ((takeC s).2.1 + (takeC (s.drop (takeC s).2.1)).2.1))).2.2⟩
  else if maySetsB (takeC s).1 (takeC (s.drop (takeC s).2.1)).1 (takeC (s.drop ((takeC s).2.1 + (takeC (s.drop (takeC s).2.1)).2.1))).1 then
    ⟨(takeC s).1, (takeC (s.drop (takeC s).2.1)).1, (takeC (s.drop ((takeC s).2.1 + (takeC (s.drop (takeC s).2.1)).2.1))).1,
      (takeC s).2.1 + (takeC (s.drop (takeC s).2.1)).2.1 + (takeC (s.drop ((takeC s).2.1 + (takeC (s.drop (takeC s).2.1)).2.1))).2.1, 0⟩
  else ⟨[], [], [], 0, 2⟩
/-- The same, one behind the other. -/
theorem takeS_1 {s : List UInt8} {a : List UInt16} {n : Nat} {e : Int} (h1 : takeC s = (a, n, e)) (he : e ≠ 0) : takeS s = ⟨[], [], [], 0, e⟩ := by
  unfold takeS; rw [h1]; rw [if_pos he]
theorem takeS_2 {s : List UInt8} {a a2 : List UInt16} {n n2 : Nat} {e : Int} (h1 : takeC s = (a, n, 0)) (h2 : takeC (s.drop n) = (a2, n2, e)) (he : e ≠ 0) : takeS s = ⟨[], [], [], 0, e⟩ := by
  unfold takeS; rw [h1]; dsimp only; rw [h2, if_neg (by simp), if_pos he]
theorem takeS_3 {s : List UInt8} {a a2 a3 : List UInt16} {n n2 n3 : Nat} {e : Int} (h1 : takeC s = (a, n, 0)) (h2 : takeC (s.drop n) = (a2, n2, 0)) (h3 : takeC (s.drop (n + n2)) = (a3, n3, e)) (he : e ≠ 0) : takeS s = ⟨[], [], [], 0, e⟩ := by
  unfold takeS; rw [h1]; dsimp only; rw [h2]; dsimp only; rw [h3, if_neg (by simp), if_neg (by simp), if_pos he]
theorem takeS_4 {s : List UInt8} {a a2 a3 : List UInt16} {n n2 n3 : Nat} (h1 : takeC s = (a, n, 0)) (h2 : takeC (s.drop n) = (a2, n2, 0)) (h3 : takeC (s.drop (n + n2)) = (a3, n3, 0)) : takeS s = if maySetsB a a2 a3 then ⟨a, a2, a3, n + n2 + n3, 0⟩ else ⟨[], [], [], 0, 2⟩ := by
  unfold takeS; rw [h1]; dsimp only; rw [h2]; dsimp only; rw [h3, if_neg (by simp), if_neg (by simp), if_neg (by simp)]
theorem takeC_used {s : List UInt8} {a : List UInt16} {n : Nat} (h : takeC s = (a, n, 0)) : n ≤ s.length ∧ a.length ≤ 16 ∧ 1 ≤ n := by
  unfold takeC at h
  split at h
  · injection h with h1 h2; injection h2 with h3 h4; cases h4
  · split at h
    · injection h with h1 h2; injection h2 with h3 h4; cases h4
    · split at h
      · rename_i q1 q2 q3
        injection h with h1 h2; injection h2 with h3 h4; subst h3; subst h1
        refine ⟨by omega, ?_, by omega⟩
        unfold mayC at q3
        rw [Bool.and_eq_true, decide_eq_true_eq] at q3
        exact q3.1
      · injection h with h1 h2; injection h2 with h3 h4; cases h4
def tsT (r : TakenS) : T := .tup [setsV r.a r.b r.c, .int .i64 r.n, .int .i64 r.e]
theorem cats_Take_is {x : T} {s : List UInt8} {a : List UInt16} {n : Nat} {e : Int} (hx : bytesT x = some s) (hl : s.length ≤ 4294967296) (h : takeC s = (a, n, e)) : Pure Try.prog 21 [x] (.tup [cT a, .int .i64 n, .int .i64 e]) := by
  have := cats_Take hx hl; rw [h] at this; exact this
theorem ref_TakeSet_is {x : T} {s : List UInt8} {a : List UInt16} {n : Nat} {e : Int} (hx : bytesT x = some s) (hl : s.length ≤ 4294967296) (h : takeC s = (a, n, e)) : Pure Try.prog 22 [x] (.tup [cT a, .int .i64 n, .int .i64 e]) := by
  have := ref_TakeSet hx hl; rw [h] at this; exact this
theorem sets_nil : Wk (.agg [.nilsl, .nilsl, .nilsl]) (setsV [] [] []) := Wk.aggL (wk3 (.nil 1) (.nil 1) (.nil 1))

structure STX (s : List UInt8) where
  j : Nat
  i : Nat
  a : List UInt16
  b : List UInt16
  c : List UInt16
  n : Nat
  n1 : Nat
  n2 : Nat
  hj : j ≤ 3
  hn : n ≤ s.length
  h1 : 1 ≤ j → takeC s = (a, n1, 0)
  h2 : 2 ≤ j → takeC (s.drop n1) = (b, n2, 0)
  h3 : 3 ≤ j → ∃ n3, takeC (s.drop (n1 + n2)) = (c, n3, 0) ∧ n = n1 + n2 + n3
  e0 : j = 0 → n = 0
  e1 : j = 1 → n = n1
  e2 : j = 2 → n = n1 + n2
set_option maxHeartbeats 1000000 in
theorem scode_Take {x : T} {s : List UInt8} (hx : bytesT x = some s) (hl : s.length ≤ 4294967296) : Pure Try.prog 66 [x] (tsT (takeS s)) := by
  refine Pure.weak (us := [sT s]) ?_ (wk1 (bytesT_wk hx))
  intro off
  refine acalls_mk (N := 44) (rs := [.cell 2 30, .tmp 3, .tmp 4]) hG Try.func66 rfl rfl rfl rfl rfl ?_
  repeat' (first
    | ((show AL _ _ _ _ _ _ _ _; refine al_cons rfl ?_); (first
      | (show AOp _ _ ⟨_, .move _, _, _, _, _⟩ _ _ _; refine r_move hG rfl rfl ?_)
      | (show AOp _ _ ⟨_, .assign _, _, _, _, _⟩ _ _ _; refine r_asg hG rfl rfl ?_)
      | (show AOp _ _ ⟨_, .call ⟨.builtin .len, _, _⟩, _, _, _, _⟩ _ _ _; first | refine r_lenm hG rfl rfl rfl rfl ?_ | refine r_len hG rfl rfl rfl rfl rfl ?_)
      | (show AOp _ _ ⟨_, .binOp .add _ _ _ _, _, _, _, _⟩ _ _ _; first | refine r_ari64 hG rfl rfl rfl rfl rfl (by omega) ?_ | refine r_aru64 hG rfl rfl rfl rfl rfl (by omega) ?_ | refine r_aru8 hG rfl rfl rfl rfl rfl (by omega) ?_ | refine r_aru16 hG rfl rfl rfl rfl rfl (by omega) ?_)
      | (show AOp _ _ ⟨_, .binOp _ _ _ _ _, _, _, _, _⟩ _ _ _; first | refine r_cmpT hG rfl rfl rfl rfl rfl (by omega) ?_ | refine r_cmpF hG rfl rfl rfl rfl rfl (by omega) ?_ | refine r_strT hG rfl rfl rfl rfl (by first | rfl | assumption) ?_ | refine r_strnF hG rfl rfl rfl rfl (by first | rfl | assumption) ?_ | refine r_strF hG rfl rfl rfl rfl (by assumption) ?_ | refine r_strnT hG rfl rfl rfl rfl (by assumption) ?_ | (refine r_cmp hG rfl rfl rfl rfl rfl (fun h => ?_) (fun h => ?_)) | (first | refine r_str hG rfl rfl rfl rfl (fun h => ?_) (fun h => ?_) | refine r_strn hG rfl rfl rfl rfl (fun h => ?_) (fun h => ?_)) | refine r_beq hG rfl rfl rfl rfl rfl ?_ | refine r_bin' hG rfl rfl rfl ?_)
      | (show AOp _ _ ⟨_, .load _ _, _, _, _, _⟩ _ _ _; first | refine r_ldro hG rfl rfl rfl ?_ | refine r_ld 0 hG rfl rfl rfl rfl ?_ | refine r_ld 1 hG rfl rfl rfl rfl ?_ | refine r_ld 2 hG rfl rfl rfl rfl ?_ | refine r_ld 3 hG rfl rfl rfl rfl ?_)
      | (show AOp _ _ ⟨_, .indexAddr _ _ _, _, _, _, _⟩ _ _ _; first | refine r_idx0 hG rfl rfl rfl rfl rfl rfl rfl ?_ | refine r_idxn hG rfl rfl rfl rfl rfl rfl rfl (by omega) ?_ | refine r_idxm hG rfl rfl rfl rfl rfl rfl rfl (by omega) ?_ | refine r_idx hG rfl rfl ?_)
      | (show AOp _ _ ⟨_, .slice _ _ _ _ _, _, _, _, _⟩ _ _ _; first | refine r_sl_lon hG rfl rfl rfl rfl rfl rfl rfl (by omega) ?_ | refine r_sl_hin hG rfl rfl rfl rfl rfl rfl rfl (by omega) ?_ | refine r_sl_lhn hG rfl rfl rfl rfl rfl rfl rfl rfl (by omega) ?_ | refine r_sl_lo hG rfl rfl rfl rfl rfl rfl rfl (by omega) ?_ | refine r_sl_hi hG rfl rfl rfl rfl rfl rfl rfl (by omega) ?_ | refine r_sl_lh hG rfl rfl rfl rfl rfl rfl rfl rfl (by omega) ?_ | refine op_cut0 hG rfl rfl rfl rfl rfl rfl rfl rfl rfl rfl ?_ | refine r_sl hG rfl rfl ?_)
      | (show AOp _ _ ⟨_, .unOp _ _ _, _, _, _, _⟩ _ _ _; refine r_not hG rfl rfl rfl ?_)
      | (show AOp _ _ ⟨_, .buildSlice _ _ _, _, _, _, _⟩ _ _ _; first | refine r_mk (sz := 1) hG rfl rfl rfl rfl rfl rfl rfl ?_ | refine r_mk (sz := 2) hG rfl rfl rfl rfl rfl rfl rfl ?_)
      | (show AOp _ _ ⟨_, .build _ _, _, _, _, _⟩ _ _ _; refine r_build hG rfl rfl rfl rfl rfl ?_)
      | (show AOp _ _ ⟨_, .alloc _, _, _, _, _⟩ _ _ _; refine r_alloc hG rfl rfl (fun i => ?_))
      | (show AOp _ _ ⟨_, .store _ _ _, _, _, _, _⟩ _ _ _; first | refine r_st 0 hG rfl rfl rfl rfl rfl rfl rfl ?_ | refine r_st 1 hG rfl rfl rfl rfl rfl rfl rfl ?_ | refine r_st 2 hG rfl rfl rfl rfl rfl rfl rfl ?_)
      | refine r_q hG rfl rfl rfl ?_))
    | (show AL _ _ _ _ _ _ _ _; first | refine al_s rfl rfl rfl ?_ | (refine al_nil ?_; first | show AW _ _ _ _ _ _ | show ∃ x', _ < _ ∧ _)) | (show AW _ _ (.seq _ _) _ _ _; refine aw_seq' ?_; intro Q1) | (show AW _ _ (.region _ _ false) _ _ _; refine aw_regL' ?_; intro O1) | (show AW _ _ (.cond _ _ _) _ _ _; first | refine aw_if_t rfl ?_ | refine aw_if_f rfl ?_) | (show AW _ _ (.skip) _ _ _; refine aw_skip ?_; first | show AW _ _ _ _ _ _ | show ∃ x', _ < _ ∧ _) | (show AW _ _ (.goto _) _ _ _; refine aw_goto ?_; try dsimp only [thenA, inBlockA, jumpA, noGotoA]) | (show AW _ _ (.ret) _ _ _; refine aw_ret ?_; try dsimp only [thenA, inBlockA, jumpA, noGotoA]) | fail)
  refine aw_scope' 0 rfl (X := STX s)
    (fun x => [(0, sT s), (2, .ptr x.i 0), (3, .int .i64 x.n), (5, match x.j with
      | 0 => .sl 1 .no [.ptr x.i 0, .ptr x.i 1, .ptr x.i 2]
      | 1 => .sl 1 .no [.ptr x.i 1, .ptr x.i 2]
      | 2 => .sl 1 .no [.ptr x.i 2]
      | _ => .sl 1 .no [])])
    (fun x => ⟨[(x.i, .cells (match x.j with
      | 0 => [.nilsl, .nilsl, .nilsl]
      | 1 => [cT x.a, .nilsl, .nilsl]
      | 2 => [cT x.a, cT x.b, .nilsl]
      | _ => [cT x.a, cT x.b, cT x.c]))], [], off, none⟩) (fun x => 3 - x.j) ?_ ?_
  · rintro ⟨j, i, a, b, c, n, n1, n2, hj, hn, g1, g2, g3, e0, e1, e2⟩
    have l3 : ([.ptr i 0, .ptr i 1, .ptr i 2] : List T).length = 3 := rfl
    have l2 : ([.ptr i 1, .ptr i 2] : List T).length = 2 := rfl
    have l1 : ([.ptr i 2] : List T).length = 1 := rfl
    have l0 : ([] : List T).length = 0 := rfl
    have hdl : (s.drop ((n : Nat) : Int).toNat).length ≤ 4294967296 := by rw [List.length_drop]; omega
    have hdn : (s.drop n).length = s.length - n := List.length_drop
    rcases (by omega : j = 0 ∨ j = 1 ∨ j = 2 ∨ j = 3) with rfl | rfl | rfl | rfl
    · obtain rfl := e0 rfl
      dsimp only
      clear g1 g2 g3 e0 e1 e2
      rcases ht : takeC s with ⟨a', n', e⟩
      have hc := cats_Take_is (x := sT (s.drop 0)) (bytesT_s _) (by omega) (by rw [List.drop_zero, ht])
      by_cases he : e = 0
      · subst he
        have hu := takeC_used ht
        repeat' (first
    | ((show AL _ _ _ _ _ _ _ _; refine al_cons rfl ?_); (first
      | (show AOp _ _ ⟨_, .move _, _, _, _, _⟩ _ _ _; refine r_move hG rfl rfl ?_)
      | (show AOp _ _ ⟨_, .assign _, _, _, _, _⟩ _ _ _; refine r_asg hG rfl rfl ?_)
      | (show AOp _ _ ⟨_, .call ⟨.builtin .len, _, _⟩, _, _, _, _⟩ _ _ _; first | refine r_lenm hG rfl rfl rfl rfl ?_ | refine r_len hG rfl rfl rfl rfl rfl ?_)
      | (show AOp _ _ ⟨_, .binOp .add _ _ _ _, _, _, _, _⟩ _ _ _; first | refine r_ari64 hG rfl rfl rfl rfl rfl (by omega) ?_ | refine r_aru64 hG rfl rfl rfl rfl rfl (by omega) ?_ | refine r_aru8 hG rfl rfl rfl rfl rfl (by omega) ?_ | refine r_aru16 hG rfl rfl rfl rfl rfl (by omega) ?_)
      | (show AOp _ _ ⟨_, .binOp _ _ _ _ _, _, _, _, _⟩ _ _ _; first | refine r_cmpT hG rfl rfl rfl rfl rfl (by omega) ?_ | refine r_cmpF hG rfl rfl rfl rfl rfl (by omega) ?_ | refine r_strT hG rfl rfl rfl rfl (by first | rfl | assumption) ?_ | refine r_strnF hG rfl rfl rfl rfl (by first | rfl | assumption) ?_ | refine r_strF hG rfl rfl rfl rfl (by assumption) ?_ | refine r_strnT hG rfl rfl rfl rfl (by assumption) ?_ | (refine r_cmp hG rfl rfl rfl rfl rfl (fun h => ?_) (fun h => ?_)) | (first | refine r_str hG rfl rfl rfl rfl (fun h => ?_) (fun h => ?_) | refine r_strn hG rfl rfl rfl rfl (fun h => ?_) (fun h => ?_)) | refine r_beq hG rfl rfl rfl rfl rfl ?_ | refine r_bin' hG rfl rfl rfl ?_)
      | (show AOp _ _ ⟨_, .load _ _, _, _, _, _⟩ _ _ _; first | refine r_ldro hG rfl rfl rfl ?_ | refine r_ld 0 hG rfl rfl rfl rfl ?_ | refine r_ld 1 hG rfl rfl rfl rfl ?_ | refine r_ld 2 hG rfl rfl rfl rfl ?_ | refine r_ld 3 hG rfl rfl rfl rfl ?_)
      | (show AOp _ _ ⟨_, .indexAddr _ _ _, _, _, _, _⟩ _ _ _; first | refine r_idx0 hG rfl rfl rfl rfl rfl rfl rfl ?_ | refine r_idxn hG rfl rfl rfl rfl rfl rfl rfl (by omega) ?_ | refine r_idxm hG rfl rfl rfl rfl rfl rfl rfl (by omega) ?_ | refine r_idx hG rfl rfl ?_)
      | (show AOp _ _ ⟨_, .slice _ _ _ _ _, _, _, _, _⟩ _ _ _; first | refine r_sl_lon hG rfl rfl rfl rfl rfl rfl rfl (by omega) ?_ | refine r_sl_hin hG rfl rfl rfl rfl rfl rfl rfl (by omega) ?_ | refine r_sl_lhn hG rfl rfl rfl rfl rfl rfl rfl rfl (by omega) ?_ | refine r_sl_lo hG rfl rfl rfl rfl rfl rfl rfl (by omega) ?_ | refine r_sl_hi hG rfl rfl rfl rfl rfl rfl rfl (by omega) ?_ | refine r_sl_lh hG rfl rfl rfl rfl rfl rfl rfl rfl (by omega) ?_ | refine op_cut0 hG rfl rfl rfl rfl rfl rfl rfl rfl rfl rfl ?_ | refine r_sl hG rfl rfl ?_)
      | (show AOp _ _ ⟨_, .unOp _ _ _, _, _, _, _⟩ _ _ _; refine r_not hG rfl rfl rfl ?_)
      | (show AOp _ _ ⟨_, .buildSlice _ _ _, _, _, _, _⟩ _ _ _; first | refine r_mk (sz := 1) hG rfl rfl rfl rfl rfl rfl rfl ?_ | refine r_mk (sz := 2) hG rfl rfl rfl rfl rfl rfl rfl ?_)
      | (show AOp _ _ ⟨_, .build _ _, _, _, _, _⟩ _ _ _; refine r_build hG rfl rfl rfl rfl rfl ?_)
      | (show AOp _ _ ⟨_, .alloc _, _, _, _, _⟩ _ _ _; refine r_alloc hG rfl rfl (fun i => ?_))
      | (show AOp _ _ ⟨_, .store _ _ _, _, _, _, _⟩ _ _ _; first | refine r_st 0 hG rfl rfl rfl rfl rfl rfl rfl ?_ | refine r_st 1 hG rfl rfl rfl rfl rfl rfl rfl ?_ | refine r_st 2 hG rfl rfl rfl rfl rfl rfl rfl ?_)
      | (show AOp _ _ ⟨_, .call ⟨.value _, _, _⟩, _, _, _, _⟩ _ _ _; first | refine r_pure rfl rfl rfl rfl rfl (by apply hc <;> (first | assumption | omega | exact bytesT_map _ _ | exact bytesT_s _ | exact catsT_map _ _ | exact catsT_c _ | rfl | (simp; omega))) ?_ | fail)
      | refine r_q hG rfl rfl rfl ?_))
    | (show AL _ _ _ _ _ _ _ _; first | refine al_s rfl rfl rfl ?_ | (refine al_nil ?_; first | show AW _ _ _ _ _ _ | show ∃ x', _ < _ ∧ _)) | (show AW _ _ (.seq _ _) _ _ _; refine aw_seq' ?_; intro Q1) | (show AW _ _ (.region _ _ false) _ _ _; refine aw_regL' ?_; intro O1) | (show AW _ _ (.cond _ _ _) _ _ _; first | refine aw_if_t rfl ?_ | refine aw_if_f rfl ?_) | (show AW _ _ (.skip) _ _ _; refine aw_skip ?_; first | show AW _ _ _ _ _ _ | show ∃ x', _ < _ ∧ _) | (show AW _ _ (.goto _) _ _ _; refine aw_goto ?_; try dsimp only [thenA, inBlockA, jumpA, noGotoA]) | (show AW _ _ (.ret) _ _ _; refine aw_ret ?_; try dsimp only [thenA, inBlockA, jumpA, noGotoA]) | fail)
        refine ⟨rfl, ⟨1, i, a', [], [], n', n', 0, by omega, by omega, fun _ => ht, fun h => by omega, fun h => by omega, fun h => by omega, fun _ => rfl, fun h => by omega⟩, by dsimp only; omega, ?_, .refl _⟩
        exact .cons rfl (.cons rfl (.consW rfl (.int (by simp)) (.cons rfl (.nil _))))
      · repeat' (first
    | ((show AL _ _ _ _ _ _ _ _; refine al_cons rfl ?_); (first
      | (show AOp _ _ ⟨_, .move _, _, _, _, _⟩ _ _ _; refine r_move hG rfl rfl ?_)
      | (show AOp _ _ ⟨_, .assign _, _, _, _, _⟩ _ _ _; refine r_asg hG rfl rfl ?_)
      | (show AOp _ _ ⟨_, .call ⟨.builtin .len, _, _⟩, _, _, _, _⟩ _ _ _; first | refine r_lenm hG rfl rfl rfl rfl ?_ | refine r_len hG rfl rfl rfl rfl rfl ?_)
      | (show AOp _ _ ⟨_, .binOp .add _ _ _ _, _, _, _, _⟩ _ _ _; first | refine r_ari64 hG rfl rfl rfl rfl rfl (by omega) ?_ | refine r_aru64 hG rfl rfl rfl rfl rfl (by omega) ?_ | refine r_aru8 hG rfl rfl rfl rfl rfl (by omega) ?_ | refine r_aru16 hG rfl rfl rfl rfl rfl (by omega) ?_)
      | (show AOp _ _ ⟨_, .binOp _ _ _ _ _, _, _, _, _⟩ _ _ _; first | refine r_cmpT hG rfl rfl rfl rfl rfl (by omega) ?_ | refine r_cmpF hG rfl rfl rfl rfl rfl (by omega) ?_ | refine r_strT hG rfl rfl rfl rfl (by first | rfl | assumption) ?_ | refine r_strnF hG rfl rfl rfl rfl (by first | rfl | assumption) ?_ | refine r_strF hG rfl rfl rfl rfl (by assumption) ?_ | refine r_strnT hG rfl rfl rfl rfl (by assumption) ?_ | (refine r_cmp hG rfl rfl rfl rfl rfl (fun h => ?_) (fun h => ?_)) | (first | refine r_str hG rfl rfl rfl rfl (fun h => ?_) (fun h => ?_) | refine r_strn hG rfl rfl rfl rfl (fun h => ?_) (fun h => ?_)) | refine r_beq hG rfl rfl rfl rfl rfl ?_ | refine r_bin' hG rfl rfl rfl ?_)
      | (show AOp _ _ ⟨_, .load _ _, _, _, _, _⟩ _ _ _; first | refine r_ldro hG rfl rfl rfl ?_ | refine r_ld 0 hG rfl rfl rfl rfl ?_ | refine r_ld 1 hG rfl rfl rfl rfl ?_ | refine r_ld 2 hG rfl rfl rfl rfl ?_ | refine r_ld 3 hG rfl rfl rfl rfl ?_)
      | (show AOp _ _ ⟨_, .indexAddr _ _ _, _, _, _, _⟩ _ _ _; first | refine r_idx0 hG rfl rfl rfl rfl rfl rfl rfl ?_ | refine r_idxn hG rfl rfl rfl rfl rfl rfl rfl (by omega) ?_ | refine r_idxm hG rfl rfl rfl rfl rfl rfl rfl (by omega) ?_ | refine r_idx hG rfl rfl ?_)
      | (show AOp _ _ ⟨_, .slice _ _ _ _ _, _, _, _, _⟩ _ _ _; first | refine r_sl_lon hG rfl rfl rfl rfl rfl rfl rfl (by omega) ?_ | refine r_sl_hin hG rfl rfl rfl rfl rfl rfl rfl (by omega) ?_ | refine r_sl_lhn hG rfl rfl rfl rfl rfl rfl rfl rfl (by omega) ?_ | refine r_sl_lo hG rfl rfl rfl rfl rfl rfl rfl (by omega) ?_ | refine r_sl_hi hG rfl rfl rfl rfl rfl rfl rfl (by omega) ?_ | refine r_sl_lh hG rfl rfl rfl rfl rfl rfl rfl rfl (by omega) ?_ | refine op_cut0 hG rfl rfl rfl rfl rfl rfl rfl rfl rfl rfl ?_ | refine r_sl hG rfl rfl ?_)
      | (show AOp _ _ ⟨_, .unOp _ _ _, _, _, _, _⟩ _ _ _; refine r_not hG rfl rfl rfl ?_)
      | (show AOp _ _ ⟨_, .buildSlice _ _ _, _, _, _, _⟩ _ _ _; first | refine r_mk (sz := 1) hG rfl rfl rfl rfl rfl rfl rfl ?_ | refine r_mk (sz := 2) hG rfl rfl rfl rfl rfl rfl rfl ?_)
      | (show AOp _ _ ⟨_, .build _ _, _, _, _, _⟩ _ _ _; refine r_build hG rfl rfl rfl rfl rfl ?_)
      | (show AOp _ _ ⟨_, .alloc _, _, _, _, _⟩ _ _ _; refine r_alloc hG rfl rfl (fun i => ?_))
      | (show AOp _ _ ⟨_, .store _ _ _, _, _, _, _⟩ _ _ _; first | refine r_st 0 hG rfl rfl rfl rfl rfl rfl rfl ?_ | refine r_st 1 hG rfl rfl rfl rfl rfl rfl rfl ?_ | refine r_st 2 hG rfl rfl rfl rfl rfl rfl rfl ?_)
      | (show AOp _ _ ⟨_, .call ⟨.value _, _, _⟩, _, _, _, _⟩ _ _ _; first | refine r_pure rfl rfl rfl rfl rfl (by apply hc <;> (first | assumption | omega | exact bytesT_map _ _ | exact bytesT_s _ | exact catsT_map _ _ | exact catsT_c _ | rfl | (simp; omega))) ?_ | fail)
      | refine r_q hG rfl rfl rfl ?_))
    | (show AL _ _ _ _ _ _ _ _; first | refine al_s rfl rfl rfl ?_ | (refine al_nil ?_; first | show AW _ _ _ _ _ _ | show ∃ x', _ < _ ∧ _)) | (show AW _ _ (.seq _ _) _ _ _; refine aw_seq' ?_; intro Q1) | (show AW _ _ (.region _ _ false) _ _ _; refine aw_regL' ?_; intro O1) | (show AW _ _ (.cond _ _ _) _ _ _; first | refine aw_if_t rfl ?_ | refine aw_if_f rfl ?_) | (show AW _ _ (.skip) _ _ _; refine aw_skip ?_; first | show AW _ _ _ _ _ _ | show ∃ x', _ < _ ∧ _) | (show AW _ _ (.goto _) _ _ _; refine aw_goto ?_; try dsimp only [thenA, inBlockA, jumpA, noGotoA]) | (show AW _ _ (.ret) _ _ _; refine aw_ret ?_; try dsimp only [thenA, inBlockA, jumpA, noGotoA]) | fail)
        refine ret_pure (res_cell 0 rfl rfl rfl (res_tmp rfl (res_tmp rfl res_nil))) ?_ rfl
        rw [takeS_1 ht he]
        exact Wk.tupL (wk3 sets_nil (.refl _) (.refl _))
    · obtain rfl := e1 rfl
      have h1 := g1 (Nat.le_refl 1)
      dsimp only
      clear g1 g2 g3 e0 e1 e2
      have hu1 := takeC_used h1
      rcases ht : takeC (s.drop n) with ⟨a', n', e⟩
      have hc := cats_Take_is (x := sT (s.drop n)) (bytesT_s _) (by omega) ht
      by_cases he : e = 0
      · subst he
        have hu := takeC_used ht
        repeat' (first
    | ((show AL _ _ _ _ _ _ _ _; refine al_cons rfl ?_); (first
      | (show AOp _ _ ⟨_, .move _, _, _, _, _⟩ _ _ _; refine r_move hG rfl rfl ?_)
      | (show AOp _ _ ⟨_, .assign _, _, _, _, _⟩ _ _ _; refine r_asg hG rfl rfl ?_)
      | (show AOp _ _ ⟨_, .call ⟨.builtin .len, _, _⟩, _, _, _, _⟩ _ _ _; first | refine r_lenm hG rfl rfl rfl rfl ?_ | refine r_len hG rfl rfl rfl rfl rfl ?_)
      | (show AOp _ _ ⟨_, .binOp .add _ _ _ _, _, _, _, _⟩ _ _ _; first | refine r_ari64 hG rfl rfl rfl rfl rfl (by omega) ?_ | refine r_aru64 hG rfl rfl rfl rfl rfl (by omega) ?_ | refine r_aru8 hG rfl rfl rfl rfl rfl (by omega) ?_ | refine r_aru16 hG rfl rfl rfl rfl rfl (by omega) ?_)
      | (show AOp _ _ ⟨_, .binOp _ _ _ _ _, _, _, _, _⟩ _ _ _; first | refine r_cmpT hG rfl rfl rfl rfl rfl (by omega) ?_ | refine r_cmpF hG rfl rfl rfl rfl rfl (by omega) ?_ | refine r_strT hG rfl rfl rfl rfl (by first | rfl | assumption) ?_ | refine r_strnF hG rfl rfl rfl rfl (by first | rfl | assumption) ?_ | refine r_strF hG rfl rfl rfl rfl (by assumption) ?_ | refine r_strnT hG rfl rfl rfl rfl (by assumption) ?_ | (refine r_cmp hG rfl rfl rfl rfl rfl (fun h => ?_) (fun h => ?_)) | (first | refine r_str hG rfl rfl rfl rfl (fun h => ?_) (fun h => ?_) | refine r_strn hG rfl rfl rfl rfl (fun h => ?_) (fun h => ?_)) | refine r_beq hG rfl rfl rfl rfl rfl ?_ | refine r_bin' hG rfl rfl rfl ?_)
      | (show AOp _ _ ⟨_, .load _ _, _, _, _, _⟩ _ _ _; first | refine r_ldro hG rfl rfl rfl ?_ | refine r_ld 0 hG rfl rfl rfl rfl ?_ | refine r_ld 1 hG rfl rfl rfl rfl ?_ | refine r_ld 2 hG rfl rfl rfl rfl ?_ | refine r_ld 3 hG rfl rfl rfl rfl ?_)
      | (show AOp _ _ ⟨_, .indexAddr _ _ _, _, _, _, _⟩ _ _ _; first | refine r_idx0 hG rfl rfl rfl rfl rfl rfl rfl ?_ | refine r_idxn hG rfl rfl rfl rfl rfl rfl rfl (by omega) ?_ | refine r_idxm hG rfl rfl rfl rfl rfl rfl rfl (by omega) ?_ | refine r_idx hG rfl rfl ?_)
      | (show AOp _ _ ⟨_, .slice _ _ _ _ _, _, _, _, _⟩ _ _ _; first | refine r_sl_lon hG rfl rfl rfl rfl rfl rfl rfl (by omega) ?_ | refine r_sl_hin hG rfl rfl rfl rfl rfl rfl rfl (by omega) ?_ | refine r_sl_lhn hG rfl rfl rfl rfl rfl rfl rfl rfl (by omega) ?_ | refine r_sl_lo hG rfl rfl rfl rfl rfl rfl rfl (by omega) ?_ | refine r_sl_hi hG rfl rfl rfl rfl rfl rfl rfl (by omega) ?_ | refine r_sl_lh hG rfl rfl rfl rfl rfl rfl rfl rfl (by omega) ?_ | refine op_cut0 hG rfl rfl rfl rfl rfl rfl rfl rfl rfl rfl ?_ | refine r_sl hG rfl rfl ?_)
      | (show AOp _ _ ⟨_, .unOp _ _ _, _, _, _, _⟩ _ _ _; refine r_not hG rfl rfl rfl ?_)
      | (show AOp _ _ ⟨_, .buildSlice _ _ _, _, _, _, _⟩ _ _ _; first | refine r_mk (sz := 1) hG rfl rfl rfl rfl rfl rfl rfl ?_ | refine r_mk (sz := 2) hG rfl rfl rfl rfl rfl rfl rfl ?_)
      | (show AOp _ _ ⟨_, .build _ _, _, _, _, _⟩ _ _ _; refine r_build hG rfl rfl rfl rfl rfl ?_)
      | (show AOp _ _ ⟨_, .alloc _, _, _, _, _⟩ _ _ _; refine r_alloc hG rfl rfl (fun i => ?_))
      | (show AOp _ _ ⟨_, .store _ _ _, _, _, _, _⟩ _ _ _; first | refine r_st 0 hG rfl rfl rfl rfl rfl rfl rfl ?_ | refine r_st 1 hG rfl rfl rfl rfl rfl rfl rfl ?_ | refine r_st 2 hG rfl rfl rfl rfl rfl rfl rfl ?_)
      | (show AOp _ _ ⟨_, .call ⟨.value _, _, _⟩, _, _, _, _⟩ _ _ _; first | refine r_pure rfl rfl rfl rfl rfl (by apply hc <;> (first | assumption | omega | exact bytesT_map _ _ | exact bytesT_s _ | exact catsT_map _ _ | exact catsT_c _ | rfl | (simp; omega))) ?_ | fail)
      | refine r_q hG rfl rfl rfl ?_))
    | (show AL _ _ _ _ _ _ _ _; first | refine al_s rfl rfl rfl ?_ | (refine al_nil ?_; first | show AW _ _ _ _ _ _ | show ∃ x', _ < _ ∧ _)) | (show AW _ _ (.seq _ _) _ _ _; refine aw_seq' ?_; intro Q1) | (show AW _ _ (.region _ _ false) _ _ _; refine aw_regL' ?_; intro O1) | (show AW _ _ (.cond _ _ _) _ _ _; first | refine aw_if_t rfl ?_ | refine aw_if_f rfl ?_) | (show AW _ _ (.skip) _ _ _; refine aw_skip ?_; first | show AW _ _ _ _ _ _ | show ∃ x', _ < _ ∧ _) | (show AW _ _ (.goto _) _ _ _; refine aw_goto ?_; try dsimp only [thenA, inBlockA, jumpA, noGotoA]) | (show AW _ _ (.ret) _ _ _; refine aw_ret ?_; try dsimp only [thenA, inBlockA, jumpA, noGotoA]) | fail)
        refine ⟨rfl, ⟨2, i, a, a', [], n + n', n, n', by omega, by omega, fun _ => h1, fun _ => ht, fun h => by omega, fun h => by omega, fun h => by omega, fun _ => rfl⟩, by dsimp only; omega, ?_, .refl _⟩
        exact .cons rfl (.cons rfl (.consW rfl (.int (by simp)) (.cons rfl (.nil _))))
      · repeat' (first
    | ((show AL _ _ _ _ _ _ _ _; refine al_cons rfl ?_); (first
      | (show AOp _ _ ⟨_, .move _, _, _, _, _⟩ _ _ _; refine r_move hG rfl rfl ?_)
      | (show AOp _ _ ⟨_, .assign _, _, _, _, _⟩ _ _ _; refine r_asg hG rfl rfl ?_)
      | (show AOp _ _ ⟨_, .call ⟨.builtin .len, _, _⟩, _, _, _, _⟩ _ _ _; first | refine r_lenm hG rfl rfl rfl rfl ?_ | refine r_len hG rfl rfl rfl rfl rfl ?_)
      | (show AOp _ _ ⟨_, .binOp .add _ _ _ _, _, _, _, _⟩ _ _ _; first | refine r_ari64 hG rfl rfl rfl rfl rfl (by omega) ?_ | refine r_aru64 hG rfl rfl rfl rfl rfl (by omega) ?_ | refine r_aru8 hG rfl rfl rfl rfl rfl (by omega) ?_ | refine r_aru16 hG rfl rfl rfl rfl rfl (by omega) ?_)
      | (show AOp _ _ ⟨_, .binOp _ _ _ _ _, _, _, _, _⟩ _ _ _; first | refine r_cmpT hG rfl rfl rfl rfl rfl (by omega) ?_ | refine r_cmpF hG rfl rfl rfl rfl rfl (by omega) ?_ | refine r_strT hG rfl rfl rfl rfl (by first | rfl | assumption) ?_ | refine r_strnF hG rfl rfl rfl rfl (by first | rfl | assumption) ?_ | refine r_strF hG rfl rfl rfl rfl (by assumption) ?_ | refine r_strnT hG rfl rfl rfl rfl (by assumption) ?_ | (refine r_cmp hG rfl rfl rfl rfl rfl (fun h => ?_) (fun h => ?_)) | (first | refine r_str hG rfl rfl rfl rfl (fun h => ?_) (fun h => ?_) | refine r_strn hG rfl rfl rfl rfl (fun h => ?_) (fun h => ?_)) | refine r_beq hG rfl rfl rfl rfl rfl ?_ | refine r_bin' hG rfl rfl rfl ?_)
      | (show AOp _ _ ⟨_, .load _ _, _, _, _, _⟩ _ _ _; first | refine r_ldro hG rfl rfl rfl ?_ | refine r_ld 0 hG rfl rfl rfl rfl ?_ | refine r_ld 1 hG rfl rfl rfl rfl ?_ | refine r_ld 2 hG rfl rfl rfl rfl ?_ | refine r_ld 3 hG rfl rfl rfl rfl ?_)
      | (show AOp _ _ ⟨_, .indexAddr _ _ _, _, _, _, _⟩ _ _ _; first | refine r_idx0 hG rfl rfl rfl rfl rfl rfl rfl ?_ | refine r_idxn hG rfl rfl rfl rfl rfl rfl rfl (by omega) ?_ | refine r_idxm hG rfl rfl rfl rfl rfl rfl rfl (by omega) ?_ | refine r_idx hG rfl rfl ?_)
      | (show AOp _ _ ⟨_, .slice _ _ _ _ _, _, _, _, _⟩ _ _ _; first | refine r_sl_lon hG rfl rfl rfl rfl rfl rfl rfl (by omega) ?_ | refine r_sl_hin hG rfl rfl rfl rfl rfl rfl rfl (by omega) ?_ | refine r_sl_lhn hG rfl rfl rfl rfl rfl rfl rfl rfl (by omega) ?_ | refine r_sl_lo hG rfl rfl rfl rfl rfl rfl rfl (by omega) ?_ | refine r_sl_hi hG rfl rfl rfl rfl rfl rfl rfl (by omega) ?_ | refine r_sl_lh hG rfl rfl rfl rfl rfl rfl rfl rfl (by omega) ?_ | refine op_cut0 hG rfl rfl rfl rfl rfl rfl rfl rfl rfl rfl ?_ | refine r_sl hG rfl rfl ?_)
      | (show AOp _ _ ⟨_, .unOp _ _ _, _, _, _, _⟩ _ _ _; refine r_not hG rfl rfl rfl ?_)
      | (show AOp _ _ ⟨_, .buildSlice _ _ _, _, _, _, _⟩ _ _ _; first | refine r_mk (sz := 1) hG rfl rfl rfl rfl rfl rfl rfl ?_ | refine r_mk (sz := 2) hG rfl rfl rfl rfl rfl rfl rfl ?_)
      | (show AOp _ _ ⟨_, .build _ _, _, _, _, _⟩ _ _ _; refine r_build hG rfl rfl rfl rfl rfl ?_)
      | (show AOp _ _ ⟨_, .alloc _, _, _, _, _⟩ _ _ _; refine r_alloc hG rfl rfl (fun i => ?_))
      | (show AOp _ _ ⟨_, .store _ _ _, _, _, _, _⟩ _ _ _; first | refine r_st 0 hG rfl rfl rfl rfl rfl rfl rfl ?_ | refine r_st 1 hG rfl rfl rfl rfl rfl rfl rfl ?_ | refine r_st 2 hG rfl rfl rfl rfl rfl rfl rfl ?_)
      | (show AOp _ _ ⟨_, .call ⟨.value _, _, _⟩, _, _, _, _⟩ _ _ _; first | refine r_pure rfl rfl rfl rfl rfl (by apply hc <;> (first | assumption | omega | exact bytesT_map _ _ | exact bytesT_s _ | exact catsT_map _ _ | exact catsT_c _ | rfl | (simp; omega))) ?_ | fail)
      | refine r_q hG rfl rfl rfl ?_))
    | (show AL _ _ _ _ _ _ _ _; first | refine al_s rfl rfl rfl ?_ | (refine al_nil ?_; first | show AW _ _ _ _ _ _ | show ∃ x', _ < _ ∧ _)) | (show AW _ _ (.seq _ _) _ _ _; refine aw_seq' ?_; intro Q1) | (show AW _ _ (.region _ _ false) _ _ _; refine aw_regL' ?_; intro O1) | (show AW _ _ (.cond _ _ _) _ _ _; first | refine aw_if_t rfl ?_ | refine aw_if_f rfl ?_) | (show AW _ _ (.skip) _ _ _; refine aw_skip ?_; first | show AW _ _ _ _ _ _ | show ∃ x', _ < _ ∧ _) | (show AW _ _ (.goto _) _ _ _; refine aw_goto ?_; try dsimp only [thenA, inBlockA, jumpA, noGotoA]) | (show AW _ _ (.ret) _ _ _; refine aw_ret ?_; try dsimp only [thenA, inBlockA, jumpA, noGotoA]) | fail)
        refine ret_pure (res_cell 0 rfl rfl rfl (res_tmp rfl (res_tmp rfl res_nil))) ?_ rfl
        rw [takeS_2 h1 ht he]
        exact Wk.tupL (wk3 sets_nil (.refl _) (.refl _))
    · obtain rfl := e2 rfl
      have h1 := g1 (by decide)
      have h2 := g2 (by decide)
      dsimp only
      clear g1 g2 g3 e0 e1 e2
      have hu1 := takeC_used h1
      have hu2 := takeC_used h2
      rcases ht : takeC (s.drop (n1 + n2)) with ⟨a', n', e⟩
      have hc := cats_Take_is (x := sT (s.drop (n1 + n2))) (bytesT_s _) (by omega) ht
      by_cases he : e = 0
      · subst he
        have hu := takeC_used ht
        repeat' (first
    | ((show AL _ _ _ _ _ _ _ _; refine al_cons rfl ?_); (first
      | (show AOp _ _ ⟨_, .move _, _, _, _, _⟩ _ _ _; refine r_move hG rfl rfl ?_)
      | (show AOp _ _ ⟨_, .assign _, _, _, _, _⟩ _ _ _; refine r_asg hG rfl rfl ?_)
      | (show AOp _ _ ⟨_, .call ⟨.builtin .len, _, _⟩, _, _, _, _⟩ _ _ _; first | refine r_lenm hG rfl rfl rfl rfl ?_ | refine r_len hG rfl rfl rfl rfl rfl ?_)
      | (show AOp _ _ ⟨_, .binOp .add _ _ _ _, _, _, _, _⟩ _ _ _; first | refine r_ari64 hG rfl rfl rfl rfl rfl (by omega) ?_ | refine r_aru64 hG rfl rfl rfl rfl rfl (by omega) ?_ | refine r_aru8 hG rfl rfl rfl rfl rfl (by omega) ?_ | refine r_aru16 hG rfl rfl rfl rfl rfl (by omega) ?_)
      | (show AOp _ _ ⟨_, .binOp _ _ _ _ _, _, _, _, _⟩ _ _ _; first | refine r_cmpT hG rfl rfl rfl rfl rfl (by omega) ?_ | refine r_cmpF hG rfl rfl rfl rfl rfl (by omega) ?_ | refine r_strT hG rfl rfl rfl rfl (by first | rfl | assumption) ?_ | refine r_strnF hG rfl rfl rfl rfl (by first | rfl | assumption) ?_ | refine r_strF hG rfl rfl rfl rfl (by assumption) ?_ | refine r_strnT hG rfl rfl rfl rfl (by assumption) ?_ | (refine r_cmp hG rfl rfl rfl rfl rfl (fun h => ?_) (fun h => ?_)) | (first | refine r_str hG rfl rfl rfl rfl (fun h => ?_) (fun h => ?_) | refine r_strn hG rfl rfl rfl rfl (fun h => ?_) (fun h => ?_)) | refine r_beq hG rfl rfl rfl rfl rfl ?_ | refine r_bin' hG rfl rfl rfl ?_)
      | (show AOp _ _ ⟨_, .load _ _, _, _, _, _⟩ _ _ _; first | refine r_ldro hG rfl rfl rfl ?_ | refine r_ld 0 hG rfl rfl rfl rfl ?_ | refine r_ld 1 hG rfl rfl rfl rfl ?_ | refine r_ld 2 hG rfl rfl rfl rfl ?_ | refine r_ld 3 hG rfl rfl rfl rfl ?_)
      | (show AOp _ _ ⟨_, .indexAddr _ _ _, _, _, _, _⟩ _ _ _; first | refine r_idx0 hG rfl rfl rfl rfl rfl rfl rfl ?_ | refine r_idxn hG rfl rfl rfl rfl rfl rfl rfl (by omega) ?_ | refine r_idxm hG rfl rfl rfl rfl rfl rfl rfl (by omega) ?_ | refine r_idx hG rfl rfl ?_)
      | (show AOp _ _ ⟨_, .slice _ _ _ _ _, _, _, _, _⟩ _ _ _; first | refine r_sl_lon hG rfl rfl rfl rfl rfl rfl rfl (by omega) ?_ | refine r_sl_hin hG rfl rfl rfl rfl rfl rfl rfl (by omega) ?_ | refine r_sl_lhn hG rfl rfl rfl rfl rfl rfl rfl rfl (by omega) ?_ | refine r_sl_lo hG rfl rfl rfl rfl rfl rfl rfl (by omega) ?_ | refine r_sl_hi hG rfl rfl rfl rfl rfl rfl rfl (by omega) ?_ | refine r_sl_lh hG rfl rfl rfl rfl rfl rfl rfl rfl (by omega) ?_ | refine op_cut0 hG rfl rfl rfl rfl rfl rfl rfl rfl rfl rfl ?_ | refine r_sl hG rfl rfl ?_)
      | (show AOp _ _ ⟨_, .unOp _ _ _, _, _, _, _⟩ _ _ _; refine r_not hG rfl rfl rfl ?_)
      | (show AOp _ _ ⟨_, .buildSlice _ _ _, _, _, _, _⟩ _ _ _; first | refine r_mk (sz := 1) hG rfl rfl rfl rfl rfl rfl rfl ?_ | refine r_mk (sz := 2) hG rfl rfl rfl rfl rfl rfl rfl ?_)
      | (show AOp _ _ ⟨_, .build _ _, _, _, _, _⟩ _ _ _; refine r_build hG rfl rfl rfl rfl rfl ?_)
      | (show AOp _ _ ⟨_, .alloc _, _, _, _, _⟩ _ _ _; refine r_alloc hG rfl rfl (fun i => ?_))
      | (show AOp _ _ ⟨_, .store _ _ _, _, _, _, _⟩ _ _ _; first | refine r_st 0 hG rfl rfl rfl rfl rfl rfl rfl ?_ | refine r_st 1 hG rfl rfl rfl rfl rfl rfl rfl ?_ | refine r_st 2 hG rfl rfl rfl rfl rfl rfl rfl ?_)
      | (show AOp _ _ ⟨_, .call ⟨.value _, _, _⟩, _, _, _, _⟩ _ _ _; first | refine r_pure rfl rfl rfl rfl rfl (by apply hc <;> (first | assumption | omega | exact bytesT_map _ _ | exact bytesT_s _ | exact catsT_map _ _ | exact catsT_c _ | rfl | (simp; omega))) ?_ | fail)
      | refine r_q hG rfl rfl rfl ?_))
    | (show AL _ _ _ _ _ _ _ _; first | refine al_s rfl rfl rfl ?_ | (refine al_nil ?_; first | show AW _ _ _ _ _ _ | show ∃ x', _ < _ ∧ _)) | (show AW _ _ (.seq _ _) _ _ _; refine aw_seq' ?_; intro Q1) | (show AW _ _ (.region _ _ false) _ _ _; refine aw_regL' ?_; intro O1) | (show AW _ _ (.cond _ _ _) _ _ _; first | refine aw_if_t rfl ?_ | refine aw_if_f rfl ?_) | (show AW _ _ (.skip) _ _ _; refine aw_skip ?_; first | show AW _ _ _ _ _ _ | show ∃ x', _ < _ ∧ _) | (show AW _ _ (.goto _) _ _ _; refine aw_goto ?_; try dsimp only [thenA, inBlockA, jumpA, noGotoA]) | (show AW _ _ (.ret) _ _ _; refine aw_ret ?_; try dsimp only [thenA, inBlockA, jumpA, noGotoA]) | fail)
        refine ⟨rfl, ⟨3, i, a, b, a', n1 + n2 + n', n1, n2, by omega, by omega, fun _ => h1, fun _ => h2, fun _ => ⟨n', ht, rfl⟩, fun h => by omega, fun h => by omega, fun h => by omega⟩, by dsimp only; omega, ?_, .refl _⟩
        exact .cons rfl (.cons rfl (.consW rfl (.int (by simp)) (.cons rfl (.nil _))))
      · repeat' (first
    | ((show AL _ _ _ _ _ _ _ _; refine al_cons rfl ?_); (first
      | (show AOp _ _ ⟨_, .move _, _, _, _, _⟩ _ _ _; refine r_move hG rfl rfl ?_)
      | (show AOp _ _ ⟨_, .assign _, _, _, _, _⟩ _ _ _; refine r_asg hG rfl rfl ?_)
      | (show AOp _ _ ⟨_, .call ⟨.builtin .len, _, _⟩, _, _, _, _⟩ _ _ _; first | refine r_lenm hG rfl rfl rfl rfl ?_ | refine r_len hG rfl rfl rfl rfl rfl ?_)
      | (show AOp _ _ ⟨_, .binOp .add _ _ _ _, _, _, _, _⟩ _ _ _; first | refine r_ari64 hG rfl rfl rfl rfl rfl (by omega) ?_ | refine r_aru64 hG rfl rfl rfl rfl rfl (by omega) ?_ | refine r_aru8 hG rfl rfl rfl rfl rfl (by omega) ?_ | refine r_aru16 hG rfl rfl rfl rfl rfl (by omega) ?_)
      | (show AOp _ _ ⟨_, .binOp _ _ _ _ _, _, _, _, _⟩ _ _ _; first | refine r_cmpT hG rfl rfl rfl rfl rfl (by omega) ?_ | refine r_cmpF hG rfl rfl rfl rfl rfl (by omega) ?_ | refine r_strT hG rfl rfl rfl rfl (by first | rfl | assumption) ?_ | refine r_strnF hG rfl rfl rfl rfl (by first | rfl | assumption) ?_ | refine r_strF hG rfl rfl rfl rfl (by assumption) ?_ | refine r_strnT hG rfl rfl rfl rfl (by assumption) ?_ | (refine r_cmp hG rfl rfl rfl rfl rfl (fun h => ?_) (fun h => ?_)) | (first | refine r_str hG rfl rfl rfl rfl (fun h => ?_) (fun h => ?_) | refine r_strn hG rfl rfl rfl rfl (fun h => ?_) (fun h => ?_)) | refine r_beq hG rfl rfl rfl rfl rfl ?_ | refine r_bin' hG rfl rfl rfl ?_)
      | (show AOp _ _ ⟨_, .load _ _, _, _, _, _⟩ _ _ _; first | refine r_ldro hG rfl rfl rfl ?_ | refine r_ld 0 hG rfl rfl rfl rfl ?_ | refine r_ld 1 hG rfl rfl rfl rfl ?_ | refine r_ld 2 hG rfl rfl rfl rfl ?_ | refine r_ld 3 hG rfl rfl rfl rfl ?_)
      | (show AOp _ _ ⟨_, .indexAddr _ _ _, _, _, _, _⟩ _ _ _; first | refine r_idx0 hG rfl rfl rfl rfl rfl rfl rfl ?_ | refine r_idxn hG rfl rfl rfl rfl rfl rfl rfl (by omega) ?_ | refine r_idxm hG rfl rfl rfl rfl rfl rfl rfl (by omega) ?_ | refine r_idx hG rfl rfl ?_)
      | (show AOp _ _ ⟨_, .slice _ _ _ _ _, _, _, _, _⟩ _ _ _; first | refine r_sl_lon hG rfl rfl rfl rfl rfl rfl rfl (by omega) ?_ | refine r_sl_hin hG rfl rfl rfl rfl rfl rfl rfl (by omega) ?_ | refine r_sl_lhn hG rfl rfl rfl rfl rfl rfl rfl rfl (by omega) ?_ | refine r_sl_lo hG rfl rfl rfl rfl rfl rfl rfl (by omega) ?_ | refine r_sl_hi hG rfl rfl rfl rfl rfl rfl rfl (by omega) ?_ | refine r_sl_lh hG rfl rfl rfl rfl rfl rfl rfl rfl (by omega) ?_ | refine op_cut0 hG rfl rfl rfl rfl rfl rfl rfl rfl rfl rfl ?_ | refine r_sl hG rfl rfl ?_)
      | (show AOp _ _ ⟨_, .unOp _ _ _, _, _, _, _⟩ _ _ _; refine r_not hG rfl rfl rfl ?_)
      | (show AOp _ _ ⟨_, .buildSlice _ _ _, _, _, _, _⟩ _ _ _; first | refine r_mk (sz := 1) hG rfl rfl rfl rfl rfl rfl rfl ?_ | refine r_mk (sz := 2) hG rfl rfl rfl rfl rfl rfl rfl ?_)
      | (show AOp _ _ ⟨_, .build _ _, _, _, _, _⟩ _ _ _; refine r_build hG rfl rfl rfl rfl rfl ?_)
      | (show AOp _ _ ⟨_, .alloc _, _, _, _, _⟩ _ _ _; refine r_alloc hG rfl rfl (fun i => ?_))
      | (show AOp _ _ ⟨_, .store _ _ _, _, _, _, _⟩ _ _ _; first | refine r_st 0 hG rfl rfl rfl rfl rfl rfl rfl ?_ | refine r_st 1 hG rfl rfl rfl rfl rfl rfl rfl ?_ | refine r_st 2 hG rfl rfl rfl rfl rfl rfl rfl ?_)
      | (show AOp _ _ ⟨_, .call ⟨.value _, _, _⟩, _, _, _, _⟩ _ _ _; first | refine r_pure rfl rfl rfl rfl rfl (by apply hc <;> (first | assumption | omega | exact bytesT_map _ _ | exact bytesT_s _ | exact catsT_map _ _ | exact catsT_c _ | rfl | (simp; omega))) ?_ | fail)
      | refine r_q hG rfl rfl rfl ?_))
    | (show AL _ _ _ _ _ _ _ _; first | refine al_s rfl rfl rfl ?_ | (refine al_nil ?_; first | show AW _ _ _ _ _ _ | show ∃ x', _ < _ ∧ _)) | (show AW _ _ (.seq _ _) _ _ _; refine aw_seq' ?_; intro Q1) | (show AW _ _ (.region _ _ false) _ _ _; refine aw_regL' ?_; intro O1) | (show AW _ _ (.cond _ _ _) _ _ _; first | refine aw_if_t rfl ?_ | refine aw_if_f rfl ?_) | (show AW _ _ (.skip) _ _ _; refine aw_skip ?_; first | show AW _ _ _ _ _ _ | show ∃ x', _ < _ ∧ _) | (show AW _ _ (.goto _) _ _ _; refine aw_goto ?_; try dsimp only [thenA, inBlockA, jumpA, noGotoA]) | (show AW _ _ (.ret) _ _ _; refine aw_ret ?_; try dsimp only [thenA, inBlockA, jumpA, noGotoA]) | fail)
        refine ret_pure (res_cell 0 rfl rfl rfl (res_tmp rfl (res_tmp rfl res_nil))) ?_ rfl
        rw [takeS_3 h1 h2 ht he]
        exact Wk.tupL (wk3 sets_nil (.refl _) (.refl _))
    · have h1 := g1 (by decide)
      have h2 := g2 (by decide)
      obtain ⟨n3, h3, hn3⟩ := g3 (by decide)
      dsimp only
      clear g1 g2 g3 e0 e1 e2
      subst hn3
      have hu1 := takeC_used h1
      have hu2 := takeC_used h2
      have hu3 := takeC_used h3
      have hm := sets_May (catsT_c a) (catsT_c b) (catsT_c c) (by omega) (by omega) (by omega)
      cases q : maySetsB a b c <;> rw [q] at hm
      · repeat' (first
    | ((show AL _ _ _ _ _ _ _ _; refine al_cons rfl ?_); (first
      | (show AOp _ _ ⟨_, .move _, _, _, _, _⟩ _ _ _; refine r_move hG rfl rfl ?_)
      | (show AOp _ _ ⟨_, .assign _, _, _, _, _⟩ _ _ _; refine r_asg hG rfl rfl ?_)
      | (show AOp _ _ ⟨_, .call ⟨.builtin .len, _, _⟩, _, _, _, _⟩ _ _ _; first | refine r_lenm hG rfl rfl rfl rfl ?_ | refine r_len hG rfl rfl rfl rfl rfl ?_)
      | (show AOp _ _ ⟨_, .binOp .add _ _ _ _, _, _, _, _⟩ _ _ _; first | refine r_ari64 hG rfl rfl rfl rfl rfl (by omega) ?_ | refine r_aru64 hG rfl rfl rfl rfl rfl (by omega) ?_ | refine r_aru8 hG rfl rfl rfl rfl rfl (by omega) ?_ | refine r_aru16 hG rfl rfl rfl rfl rfl (by omega) ?_)
      | (show AOp _ _ ⟨_, .binOp _ _ _ _ _, _, _, _, _⟩ _ _ _; first | refine r_cmpT hG rfl rfl rfl rfl rfl (by omega) ?_ | refine r_cmpF hG rfl rfl rfl rfl rfl (by omega) ?_ | refine r_strT hG rfl rfl rfl rfl (by first | rfl | assumption) ?_ | refine r_strnF hG rfl rfl rfl rfl (by first | rfl | assumption) ?_ | refine r_strF hG rfl rfl rfl rfl (by assumption) ?_ | refine r_strnT hG rfl rfl rfl rfl (by assumption) ?_ | (refine r_cmp hG rfl rfl rfl rfl rfl (fun h => ?_) (fun h => ?_)) | (first | refine r_str hG rfl rfl rfl rfl (fun h => ?_) (fun h => ?_) | refine r_strn hG rfl rfl rfl rfl (fun h => ?_) (fun h => ?_)) | refine r_beq hG rfl rfl rfl rfl rfl ?_ | refine r_bin' hG rfl rfl rfl ?_)
      | (show AOp _ _ ⟨_, .load _ _, _, _, _, _⟩ _ _ _; first | refine r_ldro hG rfl rfl rfl ?_ | refine r_ld 0 hG rfl rfl rfl rfl ?_ | refine r_ld 1 hG rfl rfl rfl rfl ?_ | refine r_ld 2 hG rfl rfl rfl rfl ?_ | refine r_ld 3 hG rfl rfl rfl rfl ?_)
      | (show AOp _ _ ⟨_, .indexAddr _ _ _, _, _, _, _⟩ _ _ _; first | refine r_idx0 hG rfl rfl rfl rfl rfl rfl rfl ?_ | refine r_idxn hG rfl rfl rfl rfl rfl rfl rfl (by omega) ?_ | refine r_idxm hG rfl rfl rfl rfl rfl rfl rfl (by omega) ?_ | refine r_idx hG rfl rfl ?_)
      | (show AOp _ _ ⟨_, .slice _ _ _ _ _, _, _, _, _⟩ _ _ _; first | refine r_sl_lon hG rfl rfl rfl rfl rfl rfl rfl (by omega) ?_ | refine r_sl_hin hG rfl rfl rfl rfl rfl rfl rfl (by omega) ?_ | refine r_sl_lhn hG rfl rfl rfl rfl rfl rfl rfl rfl (by omega) ?_ | refine r_sl_lo hG rfl rfl rfl rfl rfl rfl rfl (by omega) ?_ | refine r_sl_hi hG rfl rfl rfl rfl rfl rfl rfl (by omega) ?_ | refine r_sl_lh hG rfl rfl rfl rfl rfl rfl rfl rfl (by omega) ?_ | refine op_cut0 hG rfl rfl rfl rfl rfl rfl rfl rfl rfl rfl ?_ | refine r_sl hG rfl rfl ?_)
      | (show AOp _ _ ⟨_, .unOp _ _ _, _, _, _, _⟩ _ _ _; refine r_not hG rfl rfl rfl ?_)
      | (show AOp _ _ ⟨_, .buildSlice _ _ _, _, _, _, _⟩ _ _ _; first | refine r_mk (sz := 1) hG rfl rfl rfl rfl rfl rfl rfl ?_ | refine r_mk (sz := 2) hG rfl rfl rfl rfl rfl rfl rfl ?_)
      | (show AOp _ _ ⟨_, .build _ _, _, _, _, _⟩ _ _ _; refine r_build hG rfl rfl rfl rfl rfl ?_)
      | (show AOp _ _ ⟨_, .alloc _, _, _, _, _⟩ _ _ _; refine r_alloc hG rfl rfl (fun i => ?_))
      | (show AOp _ _ ⟨_, .store _ _ _, _, _, _, _⟩ _ _ _; first | refine r_st 0 hG rfl rfl rfl rfl rfl rfl rfl ?_ | refine r_st 1 hG rfl rfl rfl rfl rfl rfl rfl ?_ | refine r_st 2 hG rfl rfl rfl rfl rfl rfl rfl ?_)
      | (show AOp _ _ ⟨_, .call ⟨.value _, _, _⟩, _, _, _, _⟩ _ _ _; first | refine r_pure rfl rfl rfl rfl rfl (by apply hm <;> (first | assumption | omega | exact bytesT_map _ _ | exact bytesT_s _ | exact catsT_map _ _ | exact catsT_c _ | rfl | (simp; omega))) ?_ | fail)
      | refine r_q hG rfl rfl rfl ?_))
    | (show AL _ _ _ _ _ _ _ _; first | refine al_s rfl rfl rfl ?_ | (refine al_nil ?_; first | show AW _ _ _ _ _ _ | show ∃ x', _ < _ ∧ _)) | (show AW _ _ (.seq _ _) _ _ _; refine aw_seq' ?_; intro Q1) | (show AW _ _ (.region _ _ false) _ _ _; refine aw_regL' ?_; intro O1) | (show AW _ _ (.cond _ _ _) _ _ _; first | refine aw_if_t rfl ?_ | refine aw_if_f rfl ?_) | (show AW _ _ (.skip) _ _ _; refine aw_skip ?_; first | show AW _ _ _ _ _ _ | show ∃ x', _ < _ ∧ _) | (show AW _ _ (.goto _) _ _ _; refine aw_goto ?_; try dsimp only [thenA, inBlockA, jumpA, noGotoA]) | (show AW _ _ (.ret) _ _ _; refine aw_ret ?_; try dsimp only [thenA, inBlockA, jumpA, noGotoA]) | fail)
        refine ret_pure (res_cell 0 rfl rfl rfl (res_tmp rfl (res_tmp rfl res_nil))) ?_ rfl
        rw [takeS_4 h1 h2 h3, q]
        exact Wk.tupL (wk3 sets_nil (.refl _) (.refl _))
      · repeat' (first
    | ((show AL _ _ _ _ _ _ _ _; refine al_cons rfl ?_); (first
      | (show AOp _ _ ⟨_, .move _, _, _, _, _⟩ _ _ _; refine r_move hG rfl rfl ?_)
      | (show AOp _ _ ⟨_, .assign _, _, _, _, _⟩ _ _ _; refine r_asg hG rfl rfl ?_)
      | (show AOp _ _ ⟨_, .call ⟨.builtin .len, _, _⟩, _, _, _, _⟩ _ _ _; first | refine r_lenm hG rfl rfl rfl rfl ?_ | refine r_len hG rfl rfl rfl rfl rfl ?_)
      | (show AOp _ _ ⟨_, .binOp .add _ _ _ _, _, _, _, _⟩ _ _ _; first | refine r_ari64 hG rfl rfl rfl rfl rfl (by omega) ?_ | refine r_aru64 hG rfl rfl rfl rfl rfl (by omega) ?_ | refine r_aru8 hG rfl rfl rfl rfl rfl (by omega) ?_ | refine r_aru16 hG rfl rfl rfl rfl rfl (by omega) ?_)
      | (show AOp _ _ ⟨_, .binOp _ _ _ _ _, _, _, _, _⟩ _ _ _; first | refine r_cmpT hG rfl rfl rfl rfl rfl (by omega) ?_ | refine r_cmpF hG rfl rfl rfl rfl rfl (by omega) ?_ | refine r_strT hG rfl rfl rfl rfl (by first | rfl | assumption) ?_ | refine r_strnF hG rfl rfl rfl rfl (by first | rfl | assumption) ?_ | refine r_strF hG rfl rfl rfl rfl (by assumption) ?_ | refine r_strnT hG rfl rfl rfl rfl (by assumption) ?_ | (refine r_cmp hG rfl rfl rfl rfl rfl (fun h => ?_) (fun h => ?_)) | (first | refine r_str hG rfl rfl rfl rfl (fun h => ?_) (fun h => ?_) | refine r_strn hG rfl rfl rfl rfl (fun h => ?_) (fun h => ?_)) | refine r_beq hG rfl rfl rfl rfl rfl ?_ | refine r_bin' hG rfl rfl rfl ?_)
      | (show AOp _ _ ⟨_, .load _ _, _, _, _, _⟩ _ _ _; first | refine r_ldro hG rfl rfl rfl ?_ | refine r_ld 0 hG rfl rfl rfl rfl ?_ | refine r_ld 1 hG rfl rfl rfl rfl ?_ | refine r_ld 2 hG rfl rfl rfl rfl ?_ | refine r_ld 3 hG rfl rfl rfl rfl ?_)
      | (show AOp _ _ ⟨_, .indexAddr _ _ _, _, _, _, _⟩ _ _ _; first | refine r_idx0 hG rfl rfl rfl rfl rfl rfl rfl ?_ | refine r_idxn hG rfl rfl rfl rfl rfl rfl rfl (by omega) ?_ | refine r_idxm hG rfl rfl rfl rfl rfl rfl rfl (by omega) ?_ | refine r_idx hG rfl rfl ?_)
      | (show AOp _ _ ⟨_, .slice _ _ _ _ _, _, _, _, _⟩ _ _ _; first | refine r_sl_lon hG rfl rfl rfl rfl rfl rfl rfl (by omega) ?_ | refine r_sl_hin hG rfl rfl rfl rfl rfl rfl rfl (by omega) ?_ | refine r_sl_lhn hG rfl rfl rfl rfl rfl rfl rfl rfl (by omega) ?_ | refine r_sl_lo hG rfl rfl rfl rfl rfl rfl rfl (by omega) ?_ | refine r_sl_hi hG rfl rfl rfl rfl rfl rfl rfl (by omega) ?_ | refine r_sl_lh hG rfl rfl rfl rfl rfl rfl rfl rfl (by omega) ?_ | refine op_cut0 hG rfl rfl rfl rfl rfl rfl rfl rfl rfl rfl ?_ | refine r_sl hG rfl rfl ?_)
      | (show AOp _ _ ⟨_, .unOp _ _ _, _, _, _, _⟩ _ _ _; refine r_not hG rfl rfl rfl ?_)
      | (show AOp _ _ ⟨_, .buildSlice _ _ _, _, _, _, _⟩ _ _ _; first | refine r_mk (sz := 1) hG rfl rfl rfl rfl rfl rfl rfl ?_ | refine r_mk (sz := 2) hG rfl rfl rfl rfl rfl rfl rfl ?_)
      | (show AOp _ _ ⟨_, .build _ _, _, _, _, _⟩ _ _ _; refine r_build hG rfl rfl rfl rfl rfl ?_)
      | (show AOp _ _ ⟨_, .alloc _, _, _, _, _⟩ _ _ _; refine r_alloc hG rfl rfl (fun i => ?_))
      | (show AOp _ _ ⟨_, .store _ _ _, _, _, _, _⟩ _ _ _; first | refine r_st 0 hG rfl rfl rfl rfl rfl rfl rfl ?_ | refine r_st 1 hG rfl rfl rfl rfl rfl rfl rfl ?_ | refine r_st 2 hG rfl rfl rfl rfl rfl rfl rfl ?_)
      | (show AOp _ _ ⟨_, .call ⟨.value _, _, _⟩, _, _, _, _⟩ _ _ _; first | refine r_pure rfl rfl rfl rfl rfl (by apply hm <;> (first | assumption | omega | exact bytesT_map _ _ | exact bytesT_s _ | exact catsT_map _ _ | exact catsT_c _ | rfl | (simp; omega))) ?_ | fail)
      | refine r_q hG rfl rfl rfl ?_))
    | (show AL _ _ _ _ _ _ _ _; first | refine al_s rfl rfl rfl ?_ | (refine al_nil ?_; first | show AW _ _ _ _ _ _ | show ∃ x', _ < _ ∧ _)) | (show AW _ _ (.seq _ _) _ _ _; refine aw_seq' ?_; intro Q1) | (show AW _ _ (.region _ _ false) _ _ _; refine aw_regL' ?_; intro O1) | (show AW _ _ (.cond _ _ _) _ _ _; first | refine aw_if_t rfl ?_ | refine aw_if_f rfl ?_) | (show AW _ _ (.skip) _ _ _; refine aw_skip ?_; first | show AW _ _ _ _ _ _ | show ∃ x', _ < _ ∧ _) | (show AW _ _ (.goto _) _ _ _; refine aw_goto ?_; try dsimp only [thenA, inBlockA, jumpA, noGotoA]) | (show AW _ _ (.ret) _ _ _; refine aw_ret ?_; try dsimp only [thenA, inBlockA, jumpA, noGotoA]) | fail)
        refine ret_pure (res_cell 0 rfl rfl rfl (res_tmp rfl (res_tmp rfl res_nil))) ?_ rfl
        rw [takeS_4 h1 h2 h3, q]
        exact .refl _
  · intro key
    repeat' (first
    | ((show AL _ _ _ _ _ _ _ _; refine al_cons rfl ?_); (first
      | (show AOp _ _ ⟨_, .move _, _, _, _, _⟩ _ _ _; refine r_move hG rfl rfl ?_)
      | (show AOp _ _ ⟨_, .assign _, _, _, _, _⟩ _ _ _; refine r_asg hG rfl rfl ?_)
      | (show AOp _ _ ⟨_, .call ⟨.builtin .len, _, _⟩, _, _, _, _⟩ _ _ _; first | refine r_lenm hG rfl rfl rfl rfl ?_ | refine r_len hG rfl rfl rfl rfl rfl ?_)
      | (show AOp _ _ ⟨_, .binOp .add _ _ _ _, _, _, _, _⟩ _ _ _; first | refine r_ari64 hG rfl rfl rfl rfl rfl (by omega) ?_ | refine r_aru64 hG rfl rfl rfl rfl rfl (by omega) ?_ | refine r_aru8 hG rfl rfl rfl rfl rfl (by omega) ?_ | refine r_aru16 hG rfl rfl rfl rfl rfl (by omega) ?_)
      | (show AOp _ _ ⟨_, .binOp _ _ _ _ _, _, _, _, _⟩ _ _ _; first | refine r_cmpT hG rfl rfl rfl rfl rfl (by omega) ?_ | refine r_cmpF hG rfl rfl rfl rfl rfl (by omega) ?_ | refine r_strT hG rfl rfl rfl rfl (by first | rfl | assumption) ?_ | refine r_strnF hG rfl rfl rfl rfl (by first | rfl | assumption) ?_ | refine r_strF hG rfl rfl rfl rfl (by assumption) ?_ | refine r_strnT hG rfl rfl rfl rfl (by assumption) ?_ | (refine r_cmp hG rfl rfl rfl rfl rfl (fun h => ?_) (fun h => ?_)) | (first | refine r_str hG rfl rfl rfl rfl (fun h => ?_) (fun h => ?_) | refine r_strn hG rfl rfl rfl rfl (fun h => ?_) (fun h => ?_)) | refine r_beq hG rfl rfl rfl rfl rfl ?_ | refine r_bin' hG rfl rfl rfl ?_)
      | (show AOp _ _ ⟨_, .load _ _, _, _, _, _⟩ _ _ _; first | refine r_ldro hG rfl rfl rfl ?_ | refine r_ld 0 hG rfl rfl rfl rfl ?_ | refine r_ld 1 hG rfl rfl rfl rfl ?_ | refine r_ld 2 hG rfl rfl rfl rfl ?_ | refine r_ld 3 hG rfl rfl rfl rfl ?_)
      | (show AOp _ _ ⟨_, .indexAddr _ _ _, _, _, _, _⟩ _ _ _; first | refine r_idx0 hG rfl rfl rfl rfl rfl rfl rfl ?_ | refine r_idxn hG rfl rfl rfl rfl rfl rfl rfl (by omega) ?_ | refine r_idxm hG rfl rfl rfl rfl rfl rfl rfl (by omega) ?_ | refine r_idx hG rfl rfl ?_)
      | (show AOp _ _ ⟨_, .slice _ _ _ _ _, _, _, _, _⟩ _ _ _; first | refine r_sl_lon hG rfl rfl rfl rfl rfl rfl rfl (by omega) ?_ | refine r_sl_hin hG rfl rfl rfl rfl rfl rfl rfl (by omega) ?_ | refine r_sl_lhn hG rfl rfl rfl rfl rfl rfl rfl rfl (by omega) ?_ | refine r_sl_lo hG rfl rfl rfl rfl rfl rfl rfl (by omega) ?_ | refine r_sl_hi hG rfl rfl rfl rfl rfl rfl rfl (by omega) ?_ | refine r_sl_lh hG rfl rfl rfl rfl rfl rfl rfl rfl (by omega) ?_ | refine op_cut0 hG rfl rfl rfl rfl rfl rfl rfl rfl rfl rfl ?_ | refine r_sl hG rfl rfl ?_)
      | (show AOp _ _ ⟨_, .unOp _ _ _, _, _, _, _⟩ _ _ _; refine r_not hG rfl rfl rfl ?_)
      | (show AOp _ _ ⟨_, .buildSlice _ _ _, _, _, _, _⟩ _ _ _; first | refine r_mk (sz := 1) hG rfl rfl rfl rfl rfl rfl rfl ?_ | refine r_mk (sz := 2) hG rfl rfl rfl rfl rfl rfl rfl ?_)
      | (show AOp _ _ ⟨_, .build _ _, _, _, _, _⟩ _ _ _; refine r_build hG rfl rfl rfl rfl rfl ?_)
      | (show AOp _ _ ⟨_, .alloc _, _, _, _, _⟩ _ _ _; refine r_alloc hG rfl rfl (fun i => ?_))
      | (show AOp _ _ ⟨_, .store _ _ _, _, _, _, _⟩ _ _ _; first | refine r_st 0 hG rfl rfl rfl rfl rfl rfl rfl ?_ | refine r_st 1 hG rfl rfl rfl rfl rfl rfl rfl ?_ | refine r_st 2 hG rfl rfl rfl rfl rfl rfl rfl ?_)
      | refine r_q hG rfl rfl rfl ?_))
    | (show AL _ _ _ _ _ _ _ _; first | refine al_s rfl rfl rfl ?_ | (refine al_nil ?_; first | show AW _ _ _ _ _ _ | show ∃ x', _ < _ ∧ _)) | (show AW _ _ (.seq _ _) _ _ _; refine aw_seq' ?_; intro Q1) | (show AW _ _ (.region _ _ false) _ _ _; refine aw_regL' ?_; intro O1) | (show AW _ _ (.cond _ _ _) _ _ _; first | refine aw_if_t rfl ?_ | refine aw_if_f rfl ?_) | (show AW _ _ (.skip) _ _ _; refine aw_skip ?_; first | show AW _ _ _ _ _ _ | show ∃ x', _ < _ ∧ _) | (show AW _ _ (.goto _) _ _ _; refine aw_goto ?_; try dsimp only [thenA, inBlockA, jumpA, noGotoA]) | (show AW _ _ (.ret) _ _ _; refine aw_ret ?_; try dsimp only [thenA, inBlockA, jumpA, noGotoA]) | fail)
    refine aw_label ?_
    show AW _ _ _ _ _ _
    refine aw_forget ?_ (key ⟨0, i, [], [], [], 0, 0, 0, by omega, by omega, fun h => by omega, fun h => by omega, fun h => by omega, fun _ => rfl, fun h => by omega, fun h => by omega⟩)
    exact .cons rfl (.cons rfl (.cons rfl (.consW rfl (Wk.own _ _ _) (.nil _))))
end Go.Proofs.Ytholeicgmkjadaa
