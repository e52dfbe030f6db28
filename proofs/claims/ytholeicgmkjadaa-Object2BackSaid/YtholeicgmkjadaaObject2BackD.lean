/- Part of the proof of the law Object2Back: the texts RC, S6, S7, S8, S9, S11. No conditions. -/
import Derived.Test.YtholeicgmkjadaaObject2BackC
set_option linter.unusedSimpArgs false
set_option linter.unusedVariables false
namespace Go.Proofs.Ytholeicgmkjadaa
open Go.Ts
set_option linter.unusedSimpArgs false
set_option linter.unusedVariables false
attribute [local irreducible] Go.Ts.AW Go.Ts.AOps Go.Ts.AL Go.Ts.AOp Go.Ts.ACalls Go.Ts.DL Go.Ts.DQ Go.Ts.EL
def longB (b : List UInt8) : Bool := decide (16 < b.length)
theorem r_May1 {x : T} {b : List UInt8} (hx : bytesT x = some b) (hl : b.length ≤ Ca) : Ts.Pure Try.prog 83 [x] (.bool (longB b)) := by
  refine Pure.weak (us := [sT b]) ?_ (wk1 (bytesT_wk hx))
  intro off
  refine Bs (N := 6) (rs := [.tmp 2]) hG Try.func83 rfl rfl rfl rfl rfl ?_
  unfold Ca at hl
  by_cases h : 16 < b.length
  · repeat' (first
    | ((show AL _ _ _ _ _ _ _ _; refine Ag Y ?_); (first
      | (show AOp _ _ ⟨_, .move _, _, _, _, _⟩ _ _ _; refine Am hG Y Y ?_)
      | (show AOp _ _ ⟨_, .assign _, _, _, _, _⟩ _ _ _; refine A7 hG Y Y ?_)
      | (show AOp _ _ ⟨_, .call ⟨.builtin .len, _, _⟩, _, _, _, _⟩ _ _ _; first | refine Ax hG Y Y Y Y ?_ | refine Bd hG Y Y Y Y Y ?_)
      | (show AOp _ _ ⟨_, .binOp _ _ _ _ _, _, _, _, _⟩ _ _ _; first | refine Av hG Y Y Y Y Y (by omega) ?_ | refine Au hG Y Y Y Y Y (by omega) ?_ | (refine Aw hG Y Y Y Y Y (fun h => ?_) (fun h => ?_)))
      | refine r_q hG Y Y Y ?_))
    | (show AL _ _ _ _ _ _ _ _; first | refine Bh Y Y Y ?_ | (refine As ?_; first | show AW _ _ _ _ _ _ | show ∃ x', _ < _ ∧ _)) | (show AW _ _ (.seq _ _) _ _ _; refine Ah ?_; intro Q1) | (show AW _ _ (.region _ _ false) _ _ _; refine Af ?_; intro O1) | (show AW _ _ (.ret) _ _ _; refine Aq ?_; try dsimp only [Ap, Aa, Ao, Ac]) | fail)
    exact Bb (Ar rfl A9) (.eq (by simp [longB, h]; rfl)) rfl
  · repeat' (first
    | ((show AL _ _ _ _ _ _ _ _; refine Ag Y ?_); (first
      | (show AOp _ _ ⟨_, .move _, _, _, _, _⟩ _ _ _; refine Am hG Y Y ?_)
      | (show AOp _ _ ⟨_, .assign _, _, _, _, _⟩ _ _ _; refine A7 hG Y Y ?_)
      | (show AOp _ _ ⟨_, .call ⟨.builtin .len, _, _⟩, _, _, _, _⟩ _ _ _; first | refine Ax hG Y Y Y Y ?_ | refine Bd hG Y Y Y Y Y ?_)
      | (show AOp _ _ ⟨_, .binOp _ _ _ _ _, _, _, _, _⟩ _ _ _; first | refine Av hG Y Y Y Y Y (by omega) ?_ | refine Au hG Y Y Y Y Y (by omega) ?_ | (refine Aw hG Y Y Y Y Y (fun h => ?_) (fun h => ?_)))
      | refine r_q hG Y Y Y ?_))
    | (show AL _ _ _ _ _ _ _ _; first | refine Bh Y Y Y ?_ | (refine As ?_; first | show AW _ _ _ _ _ _ | show ∃ x', _ < _ ∧ _)) | (show AW _ _ (.seq _ _) _ _ _; refine Ah ?_; intro Q1) | (show AW _ _ (.region _ _ false) _ _ _; refine Af ?_; intro O1) | (show AW _ _ (.ret) _ _ _; refine Aq ?_; try dsimp only [Ap, Aa, Ao, Ac]) | fail)
    exact Bb (Ar rfl A9) (.eq (by simp [longB, h]; rfl)) rfl
def idxL (l : List (List UInt8)) : Int := if l.findIdx longB < l.length then l.findIdx longB else -1
theorem idxL_at {l : List (List UInt8)} {i : Nat} (hi : i < l.length) (hp : longB (l.getD i default) = true) (hn : ∀ j < i, longB (l.getD j default) = false) : idxL l = i := by
  have e : l.findIdx longB = i := by
    rw [List.findIdx_eq hi]
    refine ⟨by simpa [List.getD_eq_getElem?_getD, List.getElem?_eq_getElem hi] using hp, fun j hj => ?_⟩
    have := hn j hj
    simpa [List.getD_eq_getElem?_getD, List.getElem?_eq_getElem (show j < l.length by omega)] using this
  rw [idxL, e, if_pos hi]
theorem idxL_no {l : List (List UInt8)} (hn : ∀ j < l.length, longB (l.getD j default) = false) : idxL l = -1 := by
  have e : l.findIdx longB = l.length := by
    rw [List.findIdx_eq_length]
    intro b hb
    obtain ⟨j, hj, rfl⟩ := List.mem_iff_getElem.1 hb
    have := hn j hj
    simpa [List.getD_eq_getElem?_getD, List.getElem?_eq_getElem hj] using this
  rw [idxL, e, if_neg (by omega)]
structure IdX (l : List (List UInt8)) where
  i : Nat
  hi : i ≤ l.length
  hn : ∀ j < i, longB (l.getD j default) = false
theorem getD_mem {α : Type} [Inhabited α] {l : List α} {i : Nat} (h : i < l.length) : l.getD i default ∈ l := by
  rw [List.getD_eq_getElem?_getD, List.getElem?_eq_getElem h]; exact List.getElem_mem h
theorem r_Index {x : T} {l : List (List UInt8)} (hx : lettersT x = some l) (hl : l.length ≤ Ca) (hb : ∀ b ∈ l, b.length ≤ Ca) : Ts.Pure Try.prog 90 [x, .fn (.func 83) []] (.int .i64 (idxL l)) := by
  refine Pure.weak (us := [lT l, .fn (.func 83) []]) ?_ (wk2 (lettersT_wk hx) (.refl _))
  intro off
  refine Bs (N := 19) (rs := [.tmp 4]) hG Try.func90 rfl rfl rfl rfl rfl ?_
  unfold Ca at hl
  repeat' (first
    | ((show AL _ _ _ _ _ _ _ _; refine Ag Y ?_); (first
      | (show AOp _ _ ⟨_, .move _, _, _, _, _⟩ _ _ _; refine Am hG Y Y ?_)
      | (show AOp _ _ ⟨_, .assign _, _, _, _, _⟩ _ _ _; refine A7 hG Y Y ?_)
      | (show AOp _ _ ⟨_, .call ⟨.builtin .len, _, _⟩, _, _, _, _⟩ _ _ _; first | refine Ax hG Y Y Y Y ?_ | refine Bd hG Y Y Y Y Y ?_)
      | (show AOp _ _ ⟨_, .binOp .add _ _ _ _, _, _, _, _⟩ _ _ _; first | refine Ay hG Y Y Y Y Y (by omega) ?_)
      | (show AOp _ _ ⟨_, .binOp _ _ _ _ _, _, _, _, _⟩ _ _ _; first | refine Av hG Y Y Y Y Y (by omega) ?_ | refine Au hG Y Y Y Y Y (by omega) ?_ | (refine Aw hG Y Y Y Y Y (fun h => ?_) (fun h => ?_)))
      | (show AOp _ _ ⟨_, .load _ _, _, _, _, _⟩ _ _ _; first | refine Bl hG Y Y Y ?_ | refine Az 0 hG Y Y Y Y ?_)
      | (show AOp _ _ ⟨_, .indexAddr _ _ _, _, _, _, _⟩ _ _ _; first | refine Bm hG Y Y Y Y Y Y Y (by omega) ?_ | refine Bk hG Y Y Y Y Y Y Y (by omega) ?_ | refine Bx hG Y Y ?_)
      | refine r_q hG Y Y Y ?_))
    | (show AL _ _ _ _ _ _ _ _; first | refine Bh Y Y Y ?_ | (refine As ?_; first | show AW _ _ _ _ _ _ | show ∃ x', _ < _ ∧ _)) | (show AW _ _ (.seq _ _) _ _ _; refine Ah ?_; intro Q1) | (show AW _ _ (.region _ _ false) _ _ _; refine Af ?_; intro O1) | (show AW _ _ (.cond _ _ _) _ _ _; first | refine Ak Y ?_ | refine Aj Y ?_) | (show AW _ _ (.skip) _ _ _; refine Al ?_; first | show AW _ _ _ _ _ _ | show ∃ x', _ < _ ∧ _) | (show AW _ _ (.block _ _) _ _ _; refine Ba ?_; intro Q1) | (show AW _ _ (.exit _) _ _ _; refine Bu ?_; first | show AW _ _ _ _ _ _ | show ∃ x', _ < _ ∧ _) | (show AW _ _ (.ret) _ _ _; refine Aq ?_; try dsimp only [Ap, Aa, Ao, Ac]) | fail)
  refine aw_loop (X := IdX l) (fun x => [(0, lT l), (1, .fn (.func 83) []), (7, .int .i64 l.length), (8, .int .i64 x.i)]) (fun x => ⟨[], [], off, none⟩) (fun x => l.length - x.i) ⟨0, Nat.zero_le _, fun j h => by omega⟩ ?_ (.refl _) ?_
  · exact .cons rfl (.cons rfl (.consW rfl (.int (by simp)) (.consW rfl (.int rfl) (.nil _))))
  rintro ⟨i, hi, hn⟩
  dsimp only
  by_cases hil : i < l.length
  · have hc := r_May1 (b := l.getD i default) (Ad _) (hb _ (getD_mem hil))
    cases hlb : longB (l.getD i default) <;> rw [hlb] at hc
    · repeat' (first
    | ((show AL _ _ _ _ _ _ _ _; refine Ag Y ?_); (first
      | (show AOp _ _ ⟨_, .move _, _, _, _, _⟩ _ _ _; refine Am hG Y Y ?_)
      | (show AOp _ _ ⟨_, .assign _, _, _, _, _⟩ _ _ _; refine A7 hG Y Y ?_)
      | (show AOp _ _ ⟨_, .call ⟨.builtin .len, _, _⟩, _, _, _, _⟩ _ _ _; first | refine Ax hG Y Y Y Y ?_ | refine Bd hG Y Y Y Y Y ?_)
      | (show AOp _ _ ⟨_, .binOp .add _ _ _ _, _, _, _, _⟩ _ _ _; first | refine Ay hG Y Y Y Y Y (by omega) ?_)
      | (show AOp _ _ ⟨_, .binOp _ _ _ _ _, _, _, _, _⟩ _ _ _; first | refine Av hG Y Y Y Y Y (by omega) ?_ | refine Au hG Y Y Y Y Y (by omega) ?_ | (refine Aw hG Y Y Y Y Y (fun h => ?_) (fun h => ?_)))
      | (show AOp _ _ ⟨_, .load _ _, _, _, _, _⟩ _ _ _; first | refine Bl hG Y Y Y ?_ | refine Az 0 hG Y Y Y Y ?_)
      | (show AOp _ _ ⟨_, .indexAddr _ _ _, _, _, _, _⟩ _ _ _; first | refine Bm hG Y Y Y Y Y Y Y (by omega) ?_ | refine Bk hG Y Y Y Y Y Y Y (by omega) ?_ | refine Bx hG Y Y ?_)
      | (show AOp _ _ ⟨_, .call ⟨.value _, _, _⟩, _, _, _, _⟩ _ _ _; first | refine A8 Y Y Y Y Y (by apply hc <;> (first | assumption | omega | exact Ab _ _ | exact Ad _ | exact Ae _ _ | exact Ai _ | rfl | (simp; omega))) ?_ | fail)
      | refine r_q hG Y Y Y ?_))
    | (show AL _ _ _ _ _ _ _ _; first | refine Bh Y Y Y ?_ | (refine As ?_; first | show AW _ _ _ _ _ _ | show ∃ x', _ < _ ∧ _)) | (show AW _ _ (.seq _ _) _ _ _; refine Ah ?_; intro Q1) | (show AW _ _ (.region _ _ false) _ _ _; refine Af ?_; intro O1) | (show AW _ _ (.cond _ _ _) _ _ _; first | refine Ak Y ?_ | refine Aj Y ?_) | (show AW _ _ (.skip) _ _ _; refine Al ?_; first | show AW _ _ _ _ _ _ | show ∃ x', _ < _ ∧ _) | (show AW _ _ (.block _ _) _ _ _; refine Ba ?_; intro Q1) | (show AW _ _ (.exit _) _ _ _; refine Bu ?_; first | show AW _ _ _ _ _ _ | show ∃ x', _ < _ ∧ _) | (show AW _ _ (.ret) _ _ _; refine Aq ?_; try dsimp only [Ap, Aa, Ao, Ac]) | fail)
      refine ⟨⟨i + 1, by omega, fun j hj => ?_⟩, by dsimp only; omega, ?_, .refl _⟩
      · rcases Nat.lt_succ_iff_lt_or_eq.1 hj with h | rfl
        · exact hn j h
        · exact hlb
      · exact .cons rfl (.cons rfl (.cons rfl (.consW rfl (.int (by simp)) (.nil _))))
    · repeat' (first
    | ((show AL _ _ _ _ _ _ _ _; refine Ag Y ?_); (first
      | (show AOp _ _ ⟨_, .move _, _, _, _, _⟩ _ _ _; refine Am hG Y Y ?_)
      | (show AOp _ _ ⟨_, .assign _, _, _, _, _⟩ _ _ _; refine A7 hG Y Y ?_)
      | (show AOp _ _ ⟨_, .call ⟨.builtin .len, _, _⟩, _, _, _, _⟩ _ _ _; first | refine Ax hG Y Y Y Y ?_ | refine Bd hG Y Y Y Y Y ?_)
      | (show AOp _ _ ⟨_, .binOp .add _ _ _ _, _, _, _, _⟩ _ _ _; first | refine Ay hG Y Y Y Y Y (by omega) ?_)
      | (show AOp _ _ ⟨_, .binOp _ _ _ _ _, _, _, _, _⟩ _ _ _; first | refine Av hG Y Y Y Y Y (by omega) ?_ | refine Au hG Y Y Y Y Y (by omega) ?_ | (refine Aw hG Y Y Y Y Y (fun h => ?_) (fun h => ?_)))
      | (show AOp _ _ ⟨_, .load _ _, _, _, _, _⟩ _ _ _; first | refine Bl hG Y Y Y ?_ | refine Az 0 hG Y Y Y Y ?_)
      | (show AOp _ _ ⟨_, .indexAddr _ _ _, _, _, _, _⟩ _ _ _; first | refine Bm hG Y Y Y Y Y Y Y (by omega) ?_ | refine Bk hG Y Y Y Y Y Y Y (by omega) ?_ | refine Bx hG Y Y ?_)
      | (show AOp _ _ ⟨_, .call ⟨.value _, _, _⟩, _, _, _, _⟩ _ _ _; first | refine A8 Y Y Y Y Y (by apply hc <;> (first | assumption | omega | exact Ab _ _ | exact Ad _ | exact Ae _ _ | exact Ai _ | rfl | (simp; omega))) ?_ | fail)
      | refine r_q hG Y Y Y ?_))
    | (show AL _ _ _ _ _ _ _ _; first | refine Bh Y Y Y ?_ | (refine As ?_; first | show AW _ _ _ _ _ _ | show ∃ x', _ < _ ∧ _)) | (show AW _ _ (.seq _ _) _ _ _; refine Ah ?_; intro Q1) | (show AW _ _ (.region _ _ false) _ _ _; refine Af ?_; intro O1) | (show AW _ _ (.cond _ _ _) _ _ _; first | refine Ak Y ?_ | refine Aj Y ?_) | (show AW _ _ (.skip) _ _ _; refine Al ?_; first | show AW _ _ _ _ _ _ | show ∃ x', _ < _ ∧ _) | (show AW _ _ (.block _ _) _ _ _; refine Ba ?_; intro Q1) | (show AW _ _ (.exit _) _ _ _; refine Bu ?_; first | show AW _ _ _ _ _ _ | show ∃ x', _ < _ ∧ _) | (show AW _ _ (.ret) _ _ _; refine Aq ?_; try dsimp only [Ap, Aa, Ao, Ac]) | fail)
      exact Bb (Ar rfl A9) (.int (idxL_at hil hlb hn).symm) rfl
  · obtain rfl : i = l.length := by omega
    repeat' (first
    | ((show AL _ _ _ _ _ _ _ _; refine Ag Y ?_); (first
      | (show AOp _ _ ⟨_, .move _, _, _, _, _⟩ _ _ _; refine Am hG Y Y ?_)
      | (show AOp _ _ ⟨_, .assign _, _, _, _, _⟩ _ _ _; refine A7 hG Y Y ?_)
      | (show AOp _ _ ⟨_, .call ⟨.builtin .len, _, _⟩, _, _, _, _⟩ _ _ _; first | refine Ax hG Y Y Y Y ?_ | refine Bd hG Y Y Y Y Y ?_)
      | (show AOp _ _ ⟨_, .binOp .add _ _ _ _, _, _, _, _⟩ _ _ _; first | refine Ay hG Y Y Y Y Y (by omega) ?_)
      | (show AOp _ _ ⟨_, .binOp _ _ _ _ _, _, _, _, _⟩ _ _ _; first | refine Av hG Y Y Y Y Y (by omega) ?_ | refine Au hG Y Y Y Y Y (by omega) ?_ | (refine Aw hG Y Y Y Y Y (fun h => ?_) (fun h => ?_)))
      | (show AOp _ _ ⟨_, .load _ _, _, _, _, _⟩ _ _ _; first | refine Bl hG Y Y Y ?_ | refine Az 0 hG Y Y Y Y ?_)
      | (show AOp _ _ ⟨_, .indexAddr _ _ _, _, _, _, _⟩ _ _ _; first | refine Bm hG Y Y Y Y Y Y Y (by omega) ?_ | refine Bk hG Y Y Y Y Y Y Y (by omega) ?_ | refine Bx hG Y Y ?_)
      | refine r_q hG Y Y Y ?_))
    | (show AL _ _ _ _ _ _ _ _; first | refine Bh Y Y Y ?_ | (refine As ?_; first | show AW _ _ _ _ _ _ | show ∃ x', _ < _ ∧ _)) | (show AW _ _ (.seq _ _) _ _ _; refine Ah ?_; intro Q1) | (show AW _ _ (.region _ _ false) _ _ _; refine Af ?_; intro O1) | (show AW _ _ (.cond _ _ _) _ _ _; first | refine Ak Y ?_ | refine Aj Y ?_) | (show AW _ _ (.skip) _ _ _; refine Al ?_; first | show AW _ _ _ _ _ _ | show ∃ x', _ < _ ∧ _) | (show AW _ _ (.block _ _) _ _ _; refine Ba ?_; intro Q1) | (show AW _ _ (.exit _) _ _ _; refine Bu ?_; first | show AW _ _ _ _ _ _ | show ∃ x', _ < _ ∧ _) | (show AW _ _ (.ret) _ _ _; refine Aq ?_; try dsimp only [Ap, Aa, Ao, Ac]) | fail)
    exact Bb (Ar rfl A9) (.int (idxL_no hn).symm) rfl
def anyL (l : List (List UInt8)) : Bool := l.any longB
theorem idxL_any (l : List (List UInt8)) : (0 ≤ idxL l ↔ anyL l = true) := by
  unfold idxL anyL
  rw [List.any_eq_true]
  constructor
  · intro h
    split at h
    · rename_i h1; exact ⟨_, List.getElem_mem h1, List.findIdx_getElem⟩
    · omega
  · rintro ⟨b, h1, h2⟩
    rw [if_pos (List.findIdx_lt_length_of_exists ⟨b, h1, h2⟩)]
    omega
theorem r_Contains {x : T} {l : List (List UInt8)} (hx : lettersT x = some l) (hl : l.length ≤ Ca) (hb : ∀ b ∈ l, b.length ≤ Ca) : Ts.Pure Try.prog 82 [x, .fn (.func 83) []] (.bool (anyL l)) := by
  refine Pure.weak (us := [lT l, .fn (.func 83) []]) ?_ (wk2 (lettersT_wk hx) (.refl _))
  intro off
  refine Bs (N := 9) (rs := [.tmp 4]) hG Try.func82 rfl rfl rfl rfl rfl ?_
  have hc := r_Index (x := lT l) (lettersT_l l) hl hb
  have ha := idxL_any l
  by_cases h : 0 ≤ idxL l
  · repeat' (first
    | ((show AL _ _ _ _ _ _ _ _; refine Ag Y ?_); (first
      | (show AOp _ _ ⟨_, .move _, _, _, _, _⟩ _ _ _; refine Am hG Y Y ?_)
      | (show AOp _ _ ⟨_, .assign _, _, _, _, _⟩ _ _ _; refine A7 hG Y Y ?_)
      | (show AOp _ _ ⟨_, .binOp _ _ _ _ _, _, _, _, _⟩ _ _ _; first | refine Av hG Y Y Y Y Y (by omega) ?_ | refine Au hG Y Y Y Y Y (by omega) ?_ | (refine Aw hG Y Y Y Y Y (fun h => ?_) (fun h => ?_)))
      | (show AOp _ _ ⟨_, .call ⟨.value _, _, _⟩, _, _, _, _⟩ _ _ _; first | refine A8 Y Y Y Y Y (by apply hc <;> (first | assumption | omega | exact Ab _ _ | exact Ad _ | exact Ae _ _ | exact Ai _ | rfl | (simp; omega))) ?_ | fail)
      | refine r_q hG Y Y Y ?_))
    | (show AL _ _ _ _ _ _ _ _; first | refine Bh Y Y Y ?_ | (refine As ?_; first | show AW _ _ _ _ _ _ | show ∃ x', _ < _ ∧ _)) | (show AW _ _ (.seq _ _) _ _ _; refine Ah ?_; intro Q1) | (show AW _ _ (.region _ _ false) _ _ _; refine Af ?_; intro O1) | (show AW _ _ (.ret) _ _ _; refine Aq ?_; try dsimp only [Ap, Aa, Ao, Ac]) | fail)
    exact Bb (Ar rfl A9) (.eq (by rw [ha.1 h]; rfl)) rfl
  · repeat' (first
    | ((show AL _ _ _ _ _ _ _ _; refine Ag Y ?_); (first
      | (show AOp _ _ ⟨_, .move _, _, _, _, _⟩ _ _ _; refine Am hG Y Y ?_)
      | (show AOp _ _ ⟨_, .assign _, _, _, _, _⟩ _ _ _; refine A7 hG Y Y ?_)
      | (show AOp _ _ ⟨_, .binOp _ _ _ _ _, _, _, _, _⟩ _ _ _; first | refine Av hG Y Y Y Y Y (by omega) ?_ | refine Au hG Y Y Y Y Y (by omega) ?_ | (refine Aw hG Y Y Y Y Y (fun h => ?_) (fun h => ?_)))
      | (show AOp _ _ ⟨_, .call ⟨.value _, _, _⟩, _, _, _, _⟩ _ _ _; first | refine A8 Y Y Y Y Y (by apply hc <;> (first | assumption | omega | exact Ab _ _ | exact Ad _ | exact Ae _ _ | exact Ai _ | rfl | (simp; omega))) ?_ | fail)
      | refine r_q hG Y Y Y ?_))
    | (show AL _ _ _ _ _ _ _ _; first | refine Bh Y Y Y ?_ | (refine As ?_; first | show AW _ _ _ _ _ _ | show ∃ x', _ < _ ∧ _)) | (show AW _ _ (.seq _ _) _ _ _; refine Ah ?_; intro Q1) | (show AW _ _ (.region _ _ false) _ _ _; refine Af ?_; intro O1) | (show AW _ _ (.ret) _ _ _; refine Aq ?_; try dsimp only [Ap, Aa, Ao, Ac]) | fail)
    exact Bb (Ar rfl A9) (.eq (by rw [Bool.eq_false_iff.2 fun e => h (ha.2 e)]; rfl)) rfl
theorem mayL_any (l : List (List UInt8)) : mayL l = (decide (l.length ≤ 4) && !anyL l) := by
  unfold mayL anyL
  congr 1
  rw [List.not_any_eq_all_not]
  congr 1; funext b; unfold longB; rw [← decide_not]; congr 1; simp
theorem r_May {x : T} {l : List (List UInt8)} (hx : lettersT x = some l) (hl : l.length ≤ Ca) (hb : ∀ b ∈ l, b.length ≤ Ca) : Ts.Pure Try.prog 59 [x] (.bool (mayL l)) := by
  refine Pure.weak (us := [lT l]) ?_ (wk1 (lettersT_wk hx))
  intro off
  refine Bs (N := 11) (rs := [.tmp 2]) hG Try.func59 rfl rfl rfl rfl rfl ?_
  have hc := r_Contains (x := lT l) (lettersT_l l) hl hb
  rw [mayL_any]
  by_cases h4 : l.length ≤ 4
  · rw [decide_eq_true h4, Bool.true_and]
    cases ha : anyL l <;> rw [ha] at hc
    · repeat' (first
    | ((show AL _ _ _ _ _ _ _ _; refine Ag Y ?_); (first
      | (show AOp _ _ ⟨_, .move _, _, _, _, _⟩ _ _ _; refine Am hG Y Y ?_)
      | (show AOp _ _ ⟨_, .assign _, _, _, _, _⟩ _ _ _; refine A7 hG Y Y ?_)
      | (show AOp _ _ ⟨_, .call ⟨.builtin .len, _, _⟩, _, _, _, _⟩ _ _ _; first | refine Ax hG Y Y Y Y ?_ | refine Bd hG Y Y Y Y Y ?_)
      | (show AOp _ _ ⟨_, .binOp _ _ _ _ _, _, _, _, _⟩ _ _ _; first | refine Av hG Y Y Y Y Y (by omega) ?_ | refine Au hG Y Y Y Y Y (by omega) ?_ | (refine Aw hG Y Y Y Y Y (fun h => ?_) (fun h => ?_)))
      | (show AOp _ _ ⟨_, .pick _ _ _, _, _, _, _⟩ _ _ _; refine Bf hG Y Y Y ?_)
      | (show AOp _ _ ⟨_, .unOp _ _ _, _, _, _, _⟩ _ _ _; refine B2 hG Y Y Y ?_)
      | (show AOp _ _ ⟨_, .call ⟨.value _, _, _⟩, _, _, _, _⟩ _ _ _; first | refine A8 Y Y Y Y Y (by apply hc <;> (first | assumption | omega | exact Ab _ _ | exact Ad _ | exact Ae _ _ | exact Ai _ | rfl | (simp; omega))) ?_ | fail)
      | refine r_q hG Y Y Y ?_))
    | (show AL _ _ _ _ _ _ _ _; first | refine Bh Y Y Y ?_ | (refine As ?_; first | show AW _ _ _ _ _ _ | show ∃ x', _ < _ ∧ _)) | (show AW _ _ (.seq _ _) _ _ _; refine Ah ?_; intro Q1) | (show AW _ _ (.region _ _ false) _ _ _; refine Af ?_; intro O1) | (show AW _ _ (.ret) _ _ _; refine Aq ?_; try dsimp only [Ap, Aa, Ao, Ac]) | fail)
      exact Bb (Ar rfl A9) (.refl _) rfl
    · repeat' (first
    | ((show AL _ _ _ _ _ _ _ _; refine Ag Y ?_); (first
      | (show AOp _ _ ⟨_, .move _, _, _, _, _⟩ _ _ _; refine Am hG Y Y ?_)
      | (show AOp _ _ ⟨_, .assign _, _, _, _, _⟩ _ _ _; refine A7 hG Y Y ?_)
      | (show AOp _ _ ⟨_, .call ⟨.builtin .len, _, _⟩, _, _, _, _⟩ _ _ _; first | refine Ax hG Y Y Y Y ?_ | refine Bd hG Y Y Y Y Y ?_)
      | (show AOp _ _ ⟨_, .binOp _ _ _ _ _, _, _, _, _⟩ _ _ _; first | refine Av hG Y Y Y Y Y (by omega) ?_ | refine Au hG Y Y Y Y Y (by omega) ?_ | (refine Aw hG Y Y Y Y Y (fun h => ?_) (fun h => ?_)))
      | (show AOp _ _ ⟨_, .pick _ _ _, _, _, _, _⟩ _ _ _; refine Bf hG Y Y Y ?_)
      | (show AOp _ _ ⟨_, .unOp _ _ _, _, _, _, _⟩ _ _ _; refine B2 hG Y Y Y ?_)
      | (show AOp _ _ ⟨_, .call ⟨.value _, _, _⟩, _, _, _, _⟩ _ _ _; first | refine A8 Y Y Y Y Y (by apply hc <;> (first | assumption | omega | exact Ab _ _ | exact Ad _ | exact Ae _ _ | exact Ai _ | rfl | (simp; omega))) ?_ | fail)
      | refine r_q hG Y Y Y ?_))
    | (show AL _ _ _ _ _ _ _ _; first | refine Bh Y Y Y ?_ | (refine As ?_; first | show AW _ _ _ _ _ _ | show ∃ x', _ < _ ∧ _)) | (show AW _ _ (.seq _ _) _ _ _; refine Ah ?_; intro Q1) | (show AW _ _ (.region _ _ false) _ _ _; refine Af ?_; intro O1) | (show AW _ _ (.ret) _ _ _; refine Aq ?_; try dsimp only [Ap, Aa, Ao, Ac]) | fail)
      exact Bb (Ar rfl A9) (.refl _) rfl
  · rw [decide_eq_false h4, Bool.false_and]
    repeat' (first
    | ((show AL _ _ _ _ _ _ _ _; refine Ag Y ?_); (first
      | (show AOp _ _ ⟨_, .move _, _, _, _, _⟩ _ _ _; refine Am hG Y Y ?_)
      | (show AOp _ _ ⟨_, .assign _, _, _, _, _⟩ _ _ _; refine A7 hG Y Y ?_)
      | (show AOp _ _ ⟨_, .call ⟨.builtin .len, _, _⟩, _, _, _, _⟩ _ _ _; first | refine Ax hG Y Y Y Y ?_ | refine Bd hG Y Y Y Y Y ?_)
      | (show AOp _ _ ⟨_, .binOp _ _ _ _ _, _, _, _, _⟩ _ _ _; first | refine Av hG Y Y Y Y Y (by omega) ?_ | refine Au hG Y Y Y Y Y (by omega) ?_ | (refine Aw hG Y Y Y Y Y (fun h => ?_) (fun h => ?_)))
      | (show AOp _ _ ⟨_, .pick _ _ _, _, _, _, _⟩ _ _ _; refine Bf hG Y Y Y ?_)
      | (show AOp _ _ ⟨_, .unOp _ _ _, _, _, _, _⟩ _ _ _; refine B2 hG Y Y Y ?_)
      | refine r_q hG Y Y Y ?_))
    | (show AL _ _ _ _ _ _ _ _; first | refine Bh Y Y Y ?_ | (refine As ?_; first | show AW _ _ _ _ _ _ | show ∃ x', _ < _ ∧ _)) | (show AW _ _ (.seq _ _) _ _ _; refine Ah ?_; intro Q1) | (show AW _ _ (.region _ _ false) _ _ _; refine Af ?_; intro O1) | (show AW _ _ (.ret) _ _ _; refine Aq ?_; try dsimp only [Ap, Aa, Ao, Ac]) | fail)
    exact Bb (Ar rfl A9) (.refl _) rfl
theorem ref_MayRing {x : T} {l : List (List UInt8)} (hx : lettersT x = some l) (hl : l.length ≤ Ca) (hb : ∀ b ∈ l, b.length ≤ Ca) : Ts.Pure Try.prog 63 [x] (.bool (mayL l)) := by
  refine Pure.weak (us := [lT l]) ?_ (wk1 (lettersT_wk hx))
  intro off
  refine Bs (N := 19) (rs := [.tmp 2]) hG Try.func63 rfl rfl rfl rfl rfl ?_
  rw [mayL_any]
  unfold Ca at hl
  repeat' (first
    | ((show AL _ _ _ _ _ _ _ _; refine Ag Y ?_); (first
      | (show AOp _ _ ⟨_, .move _, _, _, _, _⟩ _ _ _; refine Am hG Y Y ?_)
      | (show AOp _ _ ⟨_, .assign _, _, _, _, _⟩ _ _ _; refine A7 hG Y Y ?_)
      | (show AOp _ _ ⟨_, .call ⟨.builtin .len, _, _⟩, _, _, _, _⟩ _ _ _; first | refine Ax hG Y Y Y Y ?_ | refine Bd hG Y Y Y Y Y ?_)
      | (show AOp _ _ ⟨_, .binOp .add _ _ _ _, _, _, _, _⟩ _ _ _; first | refine Ay hG Y Y Y Y Y (by omega) ?_)
      | (show AOp _ _ ⟨_, .binOp _ _ _ _ _, _, _, _, _⟩ _ _ _; first | refine Av hG Y Y Y Y Y (by omega) ?_ | refine Au hG Y Y Y Y Y (by omega) ?_ | (refine Aw hG Y Y Y Y Y (fun h => ?_) (fun h => ?_)))
      | (show AOp _ _ ⟨_, .load _ _, _, _, _, _⟩ _ _ _; first | refine Bl hG Y Y Y ?_ | refine Az 0 hG Y Y Y Y ?_)
      | (show AOp _ _ ⟨_, .indexAddr _ _ _, _, _, _, _⟩ _ _ _; first | refine Bm hG Y Y Y Y Y Y Y (by omega) ?_ | refine Bk hG Y Y Y Y Y Y Y (by omega) ?_ | refine Bx hG Y Y ?_)
      | refine r_q hG Y Y Y ?_))
    | (show AL _ _ _ _ _ _ _ _; first | refine Bh Y Y Y ?_ | (refine As ?_; first | show AW _ _ _ _ _ _ | show ∃ x', _ < _ ∧ _)) | (show AW _ _ (.seq _ _) _ _ _; refine Ah ?_; intro Q1) | (show AW _ _ (.region _ _ false) _ _ _; refine Af ?_; intro O1) | (show AW _ _ (.cond _ _ _) _ _ _; first | refine Ak Y ?_ | refine Aj Y ?_) | (show AW _ _ (.skip) _ _ _; refine Al ?_; first | show AW _ _ _ _ _ _ | show ∃ x', _ < _ ∧ _) | (show AW _ _ (.block _ _) _ _ _; refine Ba ?_; intro Q1) | (show AW _ _ (.exit _) _ _ _; refine Bu ?_; first | show AW _ _ _ _ _ _ | show ∃ x', _ < _ ∧ _) | (show AW _ _ (.ret) _ _ _; refine Aq ?_; try dsimp only [Ap, Aa, Ao, Ac]) | fail)
  refine aw_loop (X := IdX l) (fun x => [(0, lT l), (3, .int .i64 x.i)]) (fun x => ⟨[], [], off, none⟩) (fun x => l.length - x.i) ⟨0, Nat.zero_le _, fun j h => by omega⟩ ?_ (.refl _) ?_
  · exact .cons rfl (.consW rfl (.int rfl) (.nil _))
  rintro ⟨i, hi, hn⟩
  dsimp only
  by_cases hil : i < l.length
  · have hbi := hb _ (getD_mem hil)
    unfold Ca at hbi
    by_cases hlb : 16 < (l.getD i default).length
    · have : anyL l = true := List.any_eq_true.2 ⟨_, getD_mem hil, decide_eq_true hlb⟩
      repeat' (first
    | ((show AL _ _ _ _ _ _ _ _; refine Ag Y ?_); (first
      | (show AOp _ _ ⟨_, .move _, _, _, _, _⟩ _ _ _; refine Am hG Y Y ?_)
      | (show AOp _ _ ⟨_, .assign _, _, _, _, _⟩ _ _ _; refine A7 hG Y Y ?_)
      | (show AOp _ _ ⟨_, .call ⟨.builtin .len, _, _⟩, _, _, _, _⟩ _ _ _; first | refine Ax hG Y Y Y Y ?_ | refine Bd hG Y Y Y Y Y ?_)
      | (show AOp _ _ ⟨_, .binOp .add _ _ _ _, _, _, _, _⟩ _ _ _; first | refine Ay hG Y Y Y Y Y (by omega) ?_)
      | (show AOp _ _ ⟨_, .binOp _ _ _ _ _, _, _, _, _⟩ _ _ _; first | refine Av hG Y Y Y Y Y (by omega) ?_ | refine Au hG Y Y Y Y Y (by omega) ?_ | (refine Aw hG Y Y Y Y Y (fun h => ?_) (fun h => ?_)))
      | (show AOp _ _ ⟨_, .load _ _, _, _, _, _⟩ _ _ _; first | refine Bl hG Y Y Y ?_ | refine Az 0 hG Y Y Y Y ?_)
      | (show AOp _ _ ⟨_, .indexAddr _ _ _, _, _, _, _⟩ _ _ _; first | refine Bm hG Y Y Y Y Y Y Y (by omega) ?_ | refine Bk hG Y Y Y Y Y Y Y (by omega) ?_ | refine Bx hG Y Y ?_)
      | refine r_q hG Y Y Y ?_))
    | (show AL _ _ _ _ _ _ _ _; first | refine Bh Y Y Y ?_ | (refine As ?_; first | show AW _ _ _ _ _ _ | show ∃ x', _ < _ ∧ _)) | (show AW _ _ (.seq _ _) _ _ _; refine Ah ?_; intro Q1) | (show AW _ _ (.region _ _ false) _ _ _; refine Af ?_; intro O1) | (show AW _ _ (.cond _ _ _) _ _ _; first | refine Ak Y ?_ | refine Aj Y ?_) | (show AW _ _ (.skip) _ _ _; refine Al ?_; first | show AW _ _ _ _ _ _ | show ∃ x', _ < _ ∧ _) | (show AW _ _ (.block _ _) _ _ _; refine Ba ?_; intro Q1) | (show AW _ _ (.exit _) _ _ _; refine Bu ?_; first | show AW _ _ _ _ _ _ | show ∃ x', _ < _ ∧ _) | (show AW _ _ (.ret) _ _ _; refine Aq ?_; try dsimp only [Ap, Aa, Ao, Ac]) | fail)
      exact Bb (Ar rfl A9) (.eq (by rw [this]; simp; rfl)) rfl
    · repeat' (first
    | ((show AL _ _ _ _ _ _ _ _; refine Ag Y ?_); (first
      | (show AOp _ _ ⟨_, .move _, _, _, _, _⟩ _ _ _; refine Am hG Y Y ?_)
      | (show AOp _ _ ⟨_, .assign _, _, _, _, _⟩ _ _ _; refine A7 hG Y Y ?_)
      | (show AOp _ _ ⟨_, .call ⟨.builtin .len, _, _⟩, _, _, _, _⟩ _ _ _; first | refine Ax hG Y Y Y Y ?_ | refine Bd hG Y Y Y Y Y ?_)
      | (show AOp _ _ ⟨_, .binOp .add _ _ _ _, _, _, _, _⟩ _ _ _; first | refine Ay hG Y Y Y Y Y (by omega) ?_)
      | (show AOp _ _ ⟨_, .binOp _ _ _ _ _, _, _, _, _⟩ _ _ _; first | refine Av hG Y Y Y Y Y (by omega) ?_ | refine Au hG Y Y Y Y Y (by omega) ?_ | (refine Aw hG Y Y Y Y Y (fun h => ?_) (fun h => ?_)))
      | (show AOp _ _ ⟨_, .load _ _, _, _, _, _⟩ _ _ _; first | refine Bl hG Y Y Y ?_ | refine Az 0 hG Y Y Y Y ?_)
      | (show AOp _ _ ⟨_, .indexAddr _ _ _, _, _, _, _⟩ _ _ _; first | refine Bm hG Y Y Y Y Y Y Y (by omega) ?_ | refine Bk hG Y Y Y Y Y Y Y (by omega) ?_ | refine Bx hG Y Y ?_)
      | refine r_q hG Y Y Y ?_))
    | (show AL _ _ _ _ _ _ _ _; first | refine Bh Y Y Y ?_ | (refine As ?_; first | show AW _ _ _ _ _ _ | show ∃ x', _ < _ ∧ _)) | (show AW _ _ (.seq _ _) _ _ _; refine Ah ?_; intro Q1) | (show AW _ _ (.region _ _ false) _ _ _; refine Af ?_; intro O1) | (show AW _ _ (.cond _ _ _) _ _ _; first | refine Ak Y ?_ | refine Aj Y ?_) | (show AW _ _ (.skip) _ _ _; refine Al ?_; first | show AW _ _ _ _ _ _ | show ∃ x', _ < _ ∧ _) | (show AW _ _ (.block _ _) _ _ _; refine Ba ?_; intro Q1) | (show AW _ _ (.exit _) _ _ _; refine Bu ?_; first | show AW _ _ _ _ _ _ | show ∃ x', _ < _ ∧ _) | (show AW _ _ (.ret) _ _ _; refine Aq ?_; try dsimp only [Ap, Aa, Ao, Ac]) | fail)
      refine ⟨⟨i + 1, by omega, fun j hj => ?_⟩, by dsimp only; omega, ?_, .refl _⟩
      · rcases Nat.lt_succ_iff_lt_or_eq.1 hj with h | rfl
        · exact hn j h
        · exact decide_eq_false hlb
      · exact .cons rfl (.consW rfl (.int (by simp)) (.nil _))
  · obtain rfl : i = l.length := by omega
    have : anyL l = false := Bool.eq_false_iff.2 fun e => by
      have h1 := (idxL_any l).2 e
      rw [idxL_no hn] at h1; omega
    by_cases h4 : l.length ≤ 4
    · repeat' (first
    | ((show AL _ _ _ _ _ _ _ _; refine Ag Y ?_); (first
      | (show AOp _ _ ⟨_, .move _, _, _, _, _⟩ _ _ _; refine Am hG Y Y ?_)
      | (show AOp _ _ ⟨_, .assign _, _, _, _, _⟩ _ _ _; refine A7 hG Y Y ?_)
      | (show AOp _ _ ⟨_, .call ⟨.builtin .len, _, _⟩, _, _, _, _⟩ _ _ _; first | refine Ax hG Y Y Y Y ?_ | refine Bd hG Y Y Y Y Y ?_)
      | (show AOp _ _ ⟨_, .binOp .add _ _ _ _, _, _, _, _⟩ _ _ _; first | refine Ay hG Y Y Y Y Y (by omega) ?_)
      | (show AOp _ _ ⟨_, .binOp _ _ _ _ _, _, _, _, _⟩ _ _ _; first | refine Av hG Y Y Y Y Y (by omega) ?_ | refine Au hG Y Y Y Y Y (by omega) ?_ | (refine Aw hG Y Y Y Y Y (fun h => ?_) (fun h => ?_)))
      | (show AOp _ _ ⟨_, .load _ _, _, _, _, _⟩ _ _ _; first | refine Bl hG Y Y Y ?_ | refine Az 0 hG Y Y Y Y ?_)
      | (show AOp _ _ ⟨_, .indexAddr _ _ _, _, _, _, _⟩ _ _ _; first | refine Bm hG Y Y Y Y Y Y Y (by omega) ?_ | refine Bk hG Y Y Y Y Y Y Y (by omega) ?_ | refine Bx hG Y Y ?_)
      | refine r_q hG Y Y Y ?_))
    | (show AL _ _ _ _ _ _ _ _; first | refine Bh Y Y Y ?_ | (refine As ?_; first | show AW _ _ _ _ _ _ | show ∃ x', _ < _ ∧ _)) | (show AW _ _ (.seq _ _) _ _ _; refine Ah ?_; intro Q1) | (show AW _ _ (.region _ _ false) _ _ _; refine Af ?_; intro O1) | (show AW _ _ (.cond _ _ _) _ _ _; first | refine Ak Y ?_ | refine Aj Y ?_) | (show AW _ _ (.skip) _ _ _; refine Al ?_; first | show AW _ _ _ _ _ _ | show ∃ x', _ < _ ∧ _) | (show AW _ _ (.block _ _) _ _ _; refine Ba ?_; intro Q1) | (show AW _ _ (.exit _) _ _ _; refine Bu ?_; first | show AW _ _ _ _ _ _ | show ∃ x', _ < _ ∧ _) | (show AW _ _ (.ret) _ _ _; refine Aq ?_; try dsimp only [Ap, Aa, Ao, Ac]) | fail)
      exact Bb (Ar rfl A9) (.eq (by rw [this]; simp [h4]; rfl)) rfl
    · repeat' (first
    | ((show AL _ _ _ _ _ _ _ _; refine Ag Y ?_); (first
      | (show AOp _ _ ⟨_, .move _, _, _, _, _⟩ _ _ _; refine Am hG Y Y ?_)
      | (show AOp _ _ ⟨_, .assign _, _, _, _, _⟩ _ _ _; refine A7 hG Y Y ?_)
      | (show AOp _ _ ⟨_, .call ⟨.builtin .len, _, _⟩, _, _, _, _⟩ _ _ _; first | refine Ax hG Y Y Y Y ?_ | refine Bd hG Y Y Y Y Y ?_)
      | (show AOp _ _ ⟨_, .binOp .add _ _ _ _, _, _, _, _⟩ _ _ _; first | refine Ay hG Y Y Y Y Y (by omega) ?_)
      | (show AOp _ _ ⟨_, .binOp _ _ _ _ _, _, _, _, _⟩ _ _ _; first | refine Av hG Y Y Y Y Y (by omega) ?_ | refine Au hG Y Y Y Y Y (by omega) ?_ | (refine Aw hG Y Y Y Y Y (fun h => ?_) (fun h => ?_)))
      | (show AOp _ _ ⟨_, .load _ _, _, _, _, _⟩ _ _ _; first | refine Bl hG Y Y Y ?_ | refine Az 0 hG Y Y Y Y ?_)
      | (show AOp _ _ ⟨_, .indexAddr _ _ _, _, _, _, _⟩ _ _ _; first | refine Bm hG Y Y Y Y Y Y Y (by omega) ?_ | refine Bk hG Y Y Y Y Y Y Y (by omega) ?_ | refine Bx hG Y Y ?_)
      | refine r_q hG Y Y Y ?_))
    | (show AL _ _ _ _ _ _ _ _; first | refine Bh Y Y Y ?_ | (refine As ?_; first | show AW _ _ _ _ _ _ | show ∃ x', _ < _ ∧ _)) | (show AW _ _ (.seq _ _) _ _ _; refine Ah ?_; intro Q1) | (show AW _ _ (.region _ _ false) _ _ _; refine Af ?_; intro O1) | (show AW _ _ (.cond _ _ _) _ _ _; first | refine Ak Y ?_ | refine Aj Y ?_) | (show AW _ _ (.skip) _ _ _; refine Al ?_; first | show AW _ _ _ _ _ _ | show ∃ x', _ < _ ∧ _) | (show AW _ _ (.block _ _) _ _ _; refine Ba ?_; intro Q1) | (show AW _ _ (.exit _) _ _ _; refine Bu ?_; first | show AW _ _ _ _ _ _ | show ∃ x', _ < _ ∧ _) | (show AW _ _ (.ret) _ _ _; refine Aq ?_; try dsimp only [Ap, Aa, Ao, Ac]) | fail)
      exact Bb (Ar rfl A9) (.eq (by rw [this]; simp [h4]; rfl)) rfl
structure RpX (l : List (List UInt8)) where
  i : Nat
  k : Nat
  hi : i ≤ l.length
theorem putBs_foldl_len (b : List UInt8) (l : List (List UInt8)) (h : ∀ s ∈ l, s.length ≤ 16) : (l.foldl putBs b).length ≤ b.length + 18 * l.length := by
  rw [fold_put, List.length_append]; have := lets_len l h; omega
theorem r_Put {x y : T} {b : List UInt8} {l : List (List UInt8)} (hx : bytesT x = some b) (hy : lettersT y = some l) (hl : b.length ≤ 4294000000) (hm : mayL l = true) :
    Owns Try.prog 35 [x, y] 1 ((putR b l).map bT) := by
  refine Owns.weak (us := [sT b, lT l]) ?_ (wk2 (bytesT_wk hx) (lettersT_wk hy))
  intro off
  refine Bs (N := 24) (rs := [.tmp 4]) hG Try.func35 rfl rfl rfl rfl rfl ?_
  obtain ⟨h4, h16⟩ := mayL_iff.1 hm
  have hpl := putI_le l.length 1
  repeat' (first
    | ((show AL _ _ _ _ _ _ _ _; refine Ag Y ?_); (first
      | (show AOp _ _ ⟨_, .move _, _, _, _, _⟩ _ _ _; refine Am hG Y Y ?_)
      | (show AOp _ _ ⟨_, .assign _, _, _, _, _⟩ _ _ _; refine A7 hG Y Y ?_)
      | (show AOp _ _ ⟨_, .call ⟨.builtin .len, _, _⟩, _, _, _, _⟩ _ _ _; first | refine Ax hG Y Y Y Y ?_ | refine Bd hG Y Y Y Y Y ?_)
      | (show AOp _ _ ⟨_, .binOp .add _ _ _ _, _, _, _, _⟩ _ _ _; first | refine Ay hG Y Y Y Y Y (by omega) ?_)
      | (show AOp _ _ ⟨_, .binOp _ _ _ _ _, _, _, _, _⟩ _ _ _; first | refine Av hG Y Y Y Y Y (by omega) ?_ | refine Au hG Y Y Y Y Y (by omega) ?_ | (refine Aw hG Y Y Y Y Y (fun h => ?_) (fun h => ?_)))
      | (show AOp _ _ ⟨_, .load _ _, _, _, _, _⟩ _ _ _; first | refine Bl hG Y Y Y ?_ | refine Az 0 hG Y Y Y Y ?_)
      | (show AOp _ _ ⟨_, .indexAddr _ _ _, _, _, _, _⟩ _ _ _; first | refine Bm hG Y Y Y Y Y Y Y (by omega) ?_ | refine Bk hG Y Y Y Y Y Y Y (by omega) ?_ | refine Bx hG Y Y ?_)
      | (show AOp _ _ ⟨_, .convert _ _ _, _, _, _, _⟩ _ _ _; first | refine r_cv_u64 hG Y Y Y Y Y (by omega) ?_ | refine B7 hG Y Y Y Y Y ?_)
      | (show AOp _ _ ⟨_, .call ⟨.value _, _, _⟩, _, _, _, _⟩ _ _ _; first | (refine r_owns Y Y Y Y Y (by apply num_Put <;> (first | assumption | omega | exact Ab _ _ | exact Ad _ | exact Ae _ _ | exact Ai _ | rfl | (simp; omega))) (fun k => ?_)) | (have := kk; clear this; refine A8 Y Y Y Y Y (Owns.pure (by apply num_Put <;> (first | assumption | omega | exact Ab _ _ | exact Ad _ | exact Ae _ _ | exact Ai _ | rfl | (simp; omega)))) ?_) | fail)
      | refine r_q hG Y Y Y ?_))
    | (show AL _ _ _ _ _ _ _ _; first | refine Bh Y Y Y ?_ | (refine As ?_; first | show AW _ _ _ _ _ _ | show ∃ x', _ < _ ∧ _)) | (show AW _ _ (.seq _ _) _ _ _; refine Ah ?_; intro Q1) | (show AW _ _ (.region _ _ false) _ _ _; refine Af ?_; intro O1) | (show AW _ _ (.cond _ _ _) _ _ _; first | refine Ak Y ?_ | refine Aj Y ?_) | (show AW _ _ (.skip) _ _ _; refine Al ?_; first | show AW _ _ _ _ _ _ | show ∃ x', _ < _ ∧ _) | (show AW _ _ (.block _ _) _ _ _; refine Ba ?_; intro Q1) | (show AW _ _ (.exit _) _ _ _; refine Bu ?_; first | show AW _ _ _ _ _ _ | show ∃ x', _ < _ ∧ _) | (show AW _ _ (.ret) _ _ _; refine Aq ?_; try dsimp only [Ap, Aa, Ao, Ac]) | fail)
  refine aw_loop (X := RpX l) (fun x => [(13, lT l), (14, .int .i64 l.length), (15, .int .i64 x.i), (5, .sl 1 (.tok x.k) (((l.take x.i).foldl putBs (b ++ putI l.length 1)).map bT))]) (fun x => ⟨[], [x.k], off, none⟩) (fun x => l.length - x.i) ⟨0, _, Nat.zero_le _⟩ ?_ (.refl _) ?_
  · exact .cons rfl (.consW rfl (.int (by simp)) (.consW rfl (.int rfl) (.cons rfl (.nil _))))
  rintro ⟨i, k, hi⟩
  dsimp only
  by_cases hil : i < l.length
  · have hsi := h16 _ (getD_mem hil)
    have hlen := putBs_foldl_len (b ++ putI l.length 1) (l.take i) fun s hs => h16 s (List.mem_of_mem_take hs)
    rw [List.length_append, List.length_take] at hlen
    have hft : (l.take (i + 1)).foldl putBs (b ++ putI l.length 1) = putBs ((l.take i).foldl putBs (b ++ putI l.length 1)) (l.getD i default) := by rw [take_snoc l i hil, List.foldl_append]; rfl
    generalize hz : (l.take i).foldl putBs (b ++ putI l.length 1) = z at *
    repeat' (first
    | ((show AL _ _ _ _ _ _ _ _; refine Ag Y ?_); (first
      | (show AOp _ _ ⟨_, .move _, _, _, _, _⟩ _ _ _; refine Am hG Y Y ?_)
      | (show AOp _ _ ⟨_, .assign _, _, _, _, _⟩ _ _ _; refine A7 hG Y Y ?_)
      | (show AOp _ _ ⟨_, .call ⟨.builtin .len, _, _⟩, _, _, _, _⟩ _ _ _; first | refine Ax hG Y Y Y Y ?_ | refine Bd hG Y Y Y Y Y ?_)
      | (show AOp _ _ ⟨_, .binOp .add _ _ _ _, _, _, _, _⟩ _ _ _; first | refine Ay hG Y Y Y Y Y (by omega) ?_)
      | (show AOp _ _ ⟨_, .binOp _ _ _ _ _, _, _, _, _⟩ _ _ _; first | refine Av hG Y Y Y Y Y (by omega) ?_ | refine Au hG Y Y Y Y Y (by omega) ?_ | (refine Aw hG Y Y Y Y Y (fun h => ?_) (fun h => ?_)))
      | (show AOp _ _ ⟨_, .load _ _, _, _, _, _⟩ _ _ _; first | refine Bl hG Y Y Y ?_ | refine Az 0 hG Y Y Y Y ?_)
      | (show AOp _ _ ⟨_, .indexAddr _ _ _, _, _, _, _⟩ _ _ _; first | refine Bm hG Y Y Y Y Y Y Y (by omega) ?_ | refine Bk hG Y Y Y Y Y Y Y (by omega) ?_ | refine Bx hG Y Y ?_)
      | (show AOp _ _ ⟨_, .convert _ _ _, _, _, _, _⟩ _ _ _; first | refine r_cv_u64 hG Y Y Y Y Y (by omega) ?_ | refine B7 hG Y Y Y Y Y ?_)
      | (show AOp _ _ ⟨_, .call ⟨.value _, _, _⟩, _, _, _, _⟩ _ _ _; first | (refine r_owns Y Y Y Y Y (by apply num_PutBytes <;> (first | assumption | omega | exact Ab _ _ | exact Ad _ | exact Ae _ _ | exact Ai _ | rfl | (simp; omega))) (fun k => ?_)) | (have := kk; clear this; refine A8 Y Y Y Y Y (Owns.pure (by apply num_PutBytes <;> (first | assumption | omega | exact Ab _ _ | exact Ad _ | exact Ae _ _ | exact Ai _ | rfl | (simp; omega)))) ?_) | fail)
      | refine r_q hG Y Y Y ?_))
    | (show AL _ _ _ _ _ _ _ _; first | refine Bh Y Y Y ?_ | (refine As ?_; first | show AW _ _ _ _ _ _ | show ∃ x', _ < _ ∧ _)) | (show AW _ _ (.seq _ _) _ _ _; refine Ah ?_; intro Q1) | (show AW _ _ (.region _ _ false) _ _ _; refine Af ?_; intro O1) | (show AW _ _ (.cond _ _ _) _ _ _; first | refine Ak Y ?_ | refine Aj Y ?_) | (show AW _ _ (.skip) _ _ _; refine Al ?_; first | show AW _ _ _ _ _ _ | show ∃ x', _ < _ ∧ _) | (show AW _ _ (.block _ _) _ _ _; refine Ba ?_; intro Q1) | (show AW _ _ (.exit _) _ _ _; refine Bu ?_; first | show AW _ _ _ _ _ _ | show ∃ x', _ < _ ∧ _) | (show AW _ _ (.ret) _ _ _; refine Aq ?_; try dsimp only [Ap, Aa, Ao, Ac]) | fail)
    refine ⟨⟨i + 1, _, by omega⟩, by dsimp only; omega, ?_, drop_tok⟩
    exact .cons rfl (.cons rfl (.consW rfl (.int (by simp)) (.consW rfl (.eq (by rw [hft])) (.nil _))))
  · obtain rfl : i = l.length := by omega
    repeat' (first
    | ((show AL _ _ _ _ _ _ _ _; refine Ag Y ?_); (first
      | (show AOp _ _ ⟨_, .move _, _, _, _, _⟩ _ _ _; refine Am hG Y Y ?_)
      | (show AOp _ _ ⟨_, .assign _, _, _, _, _⟩ _ _ _; refine A7 hG Y Y ?_)
      | (show AOp _ _ ⟨_, .call ⟨.builtin .len, _, _⟩, _, _, _, _⟩ _ _ _; first | refine Ax hG Y Y Y Y ?_ | refine Bd hG Y Y Y Y Y ?_)
      | (show AOp _ _ ⟨_, .binOp .add _ _ _ _, _, _, _, _⟩ _ _ _; first | refine Ay hG Y Y Y Y Y (by omega) ?_)
      | (show AOp _ _ ⟨_, .binOp _ _ _ _ _, _, _, _, _⟩ _ _ _; first | refine Av hG Y Y Y Y Y (by omega) ?_ | refine Au hG Y Y Y Y Y (by omega) ?_ | (refine Aw hG Y Y Y Y Y (fun h => ?_) (fun h => ?_)))
      | (show AOp _ _ ⟨_, .load _ _, _, _, _, _⟩ _ _ _; first | refine Bl hG Y Y Y ?_ | refine Az 0 hG Y Y Y Y ?_)
      | (show AOp _ _ ⟨_, .indexAddr _ _ _, _, _, _, _⟩ _ _ _; first | refine Bm hG Y Y Y Y Y Y Y (by omega) ?_ | refine Bk hG Y Y Y Y Y Y Y (by omega) ?_ | refine Bx hG Y Y ?_)
      | (show AOp _ _ ⟨_, .convert _ _ _, _, _, _, _⟩ _ _ _; first | refine r_cv_u64 hG Y Y Y Y Y (by omega) ?_ | refine B7 hG Y Y Y Y Y ?_)
      | refine r_q hG Y Y Y ?_))
    | (show AL _ _ _ _ _ _ _ _; first | refine Bh Y Y Y ?_ | (refine As ?_; first | show AW _ _ _ _ _ _ | show ∃ x', _ < _ ∧ _)) | (show AW _ _ (.seq _ _) _ _ _; refine Ah ?_; intro Q1) | (show AW _ _ (.region _ _ false) _ _ _; refine Af ?_; intro O1) | (show AW _ _ (.cond _ _ _) _ _ _; first | refine Ak Y ?_ | refine Aj Y ?_) | (show AW _ _ (.skip) _ _ _; refine Al ?_; first | show AW _ _ _ _ _ _ | show ∃ x', _ < _ ∧ _) | (show AW _ _ (.block _ _) _ _ _; refine Ba ?_; intro Q1) | (show AW _ _ (.exit _) _ _ _; refine Bu ?_; first | show AW _ _ _ _ _ _ | show ∃ x', _ < _ ∧ _) | (show AW _ _ (.ret) _ _ _; refine Aq ?_; try dsimp only [Ap, Aa, Ao, Ac]) | fail)
    exact ret_owns 0 (Ar rfl A9) rfl (by rw [putR, List.take_length]) rfl
structure RtkX (b : List UInt8) (n : Nat) where
  i : Nat
  hi : i ≤ n
  acc : List (List UInt8)
  hacc : acc.length = i
  hb : ∀ s ∈ acc, s.length ≤ 65535
  p : Nat
  hp : p ≤ b.length
  hr : takeLs b (n - i) acc p = takeLs b n [] 1
  k : Nat
theorem r_Take {x : T} {b : List UInt8} (hx : bytesT x = some b) (hl : b.length ≤ 4294967296) : Ts.Pure Try.prog 69 [x] (trT (takeR b)) := by
  refine Pure.weak (us := [sT b]) ?_ (wk1 (bytesT_wk hx))
  intro off
  refine Bs (N := 44) (rs := [.tmp 2, .tmp 3, .tmp 4]) hG Try.func69 rfl rfl rfl rfl rfl ?_
  have hT1 := takeE1 b
  by_cases h1 : b.length < 1
  · rw [if_pos h1] at hT1
    have hr : takeR b = ([], 0, 3) := by rw [takeR, if_pos h1]
    have hc := num_Take_is (Ad b) hT1
    rw [hr]
    repeat' (first
    | ((show AL _ _ _ _ _ _ _ _; refine Ag Y ?_); (first
      | (show AOp _ _ ⟨_, .move _, _, _, _, _⟩ _ _ _; refine Am hG Y Y ?_)
      | (show AOp _ _ ⟨_, .assign _, _, _, _, _⟩ _ _ _; refine A7 hG Y Y ?_)
      | (show AOp _ _ ⟨_, .binOp .add _ _ _ _, _, _, _, _⟩ _ _ _; first | refine Ay hG Y Y Y Y Y (by omega) ?_ | refine r_aru64 hG Y Y Y Y Y (by omega) ?_)
      | (show AOp _ _ ⟨_, .binOp _ _ _ _ _, _, _, _, _⟩ _ _ _; first | refine Av hG Y Y Y Y Y (by omega) ?_ | refine Au hG Y Y Y Y Y (by omega) ?_ | (refine Aw hG Y Y Y Y Y (fun h => ?_) (fun h => ?_)))
      | (show AOp _ _ ⟨_, .slice _ _ _ _ _, _, _, _, _⟩ _ _ _; first | refine Be hG Y Y Y Y Y Y Y (by omega) ?_ | refine Bg hG Y Y Y Y Y Y Y (by omega) ?_ | refine r_sl hG Y Y ?_)
      | (show AOp _ _ ⟨_, .unOp _ _ _, _, _, _, _⟩ _ _ _; refine B2 hG Y Y Y ?_)
      | (show AOp _ _ ⟨_, .buildSlice _ _ _, _, _, _, _⟩ _ _ _; first | refine r_mk (sz := 1) hG Y Y Y Y Y Y Y ?_)
      | (show AOp _ _ ⟨_, .call ⟨.builtin .append, _, _⟩, _, _, _, _⟩ _ _ _; first | refine Bj (sz := 1) (xs := []) hG Y Y Y Y Y Y Y ⟨_, Y⟩ Y Y Y Y Y Y Y (by first | omega | (simp; omega)) (fun k => ?_) | refine Bq 0 hG Y Y Y Y Y Y Y ⟨_, Y⟩ Y Y Y Y Y (by first | omega | (simp only [List.length_append, List.length_cons, List.length_nil]; omega)) (fun k => ?_) | fail)
      | (show AOp _ _ ⟨_, .call ⟨.value _, _, _⟩, _, _, _, _⟩ _ _ _; first | refine A8 Y Y Y Y Y (by apply hc <;> (first | assumption | omega | exact Ab _ _ | exact Ad _ | exact Ae _ _ | exact Ai _ | rfl | (simp; omega))) ?_ | fail)
      | refine r_q hG Y Y Y ?_))
    | (show AL _ _ _ _ _ _ _ _; first | refine Bh Y Y Y ?_ | (refine As ?_; first | show AW _ _ _ _ _ _ | show ∃ x', _ < _ ∧ _)) | (show AW _ _ (.seq _ _) _ _ _; refine Ah ?_; intro Q1) | (show AW _ _ (.region _ _ false) _ _ _; refine Af ?_; intro O1) | (show AW _ _ (.cond _ _ _) _ _ _; first | refine Ak Y ?_ | refine Aj Y ?_) | (show AW _ _ (.skip) _ _ _; refine Al ?_; first | show AW _ _ _ _ _ _ | show ∃ x', _ < _ ∧ _) | (show AW _ _ (.block _ _) _ _ _; refine Ba ?_; intro Q1) | (show AW _ _ (.exit _) _ _ _; refine Bu ?_; first | show AW _ _ _ _ _ _ | show ∃ x', _ < _ ∧ _) | (show AW _ _ (.ret) _ _ _; refine Aq ?_; try dsimp only [Ap, Aa, Ao, Ac]) | fail)
    exact Bb (Ar rfl (Ar rfl (Ar rfl A9))) (Wk.tupL (wk3 (.nil 1) (.refl _) (.refl _))) rfl
  rw [if_neg h1] at hT1
  have hv := beV1 b (by omega)
  have hc := num_Take_is (Ad b) hT1
  have hr : takeR b = if (takeLs b (beV (b.take 1)) [] 1).2.2 = 0 then (if mayL (takeLs b (beV (b.take 1)) [] 1).1 then takeLs b (beV (b.take 1)) [] 1 else ([], 0, 2)) else ([], 0, 3) := by rw [takeR, if_neg h1]
  rw [hr]
  generalize hn : beV (b.take 1) = n at *
  generalize hR : takeLs b n [] 1 = R at *
  repeat' (first
    | ((show AL _ _ _ _ _ _ _ _; refine Ag Y ?_); (first
      | (show AOp _ _ ⟨_, .move _, _, _, _, _⟩ _ _ _; refine Am hG Y Y ?_)
      | (show AOp _ _ ⟨_, .assign _, _, _, _, _⟩ _ _ _; refine A7 hG Y Y ?_)
      | (show AOp _ _ ⟨_, .binOp .add _ _ _ _, _, _, _, _⟩ _ _ _; first | refine Ay hG Y Y Y Y Y (by omega) ?_ | refine r_aru64 hG Y Y Y Y Y (by omega) ?_)
      | (show AOp _ _ ⟨_, .binOp _ _ _ _ _, _, _, _, _⟩ _ _ _; first | refine Av hG Y Y Y Y Y (by omega) ?_ | refine Au hG Y Y Y Y Y (by omega) ?_ | (refine Aw hG Y Y Y Y Y (fun h => ?_) (fun h => ?_)))
      | (show AOp _ _ ⟨_, .slice _ _ _ _ _, _, _, _, _⟩ _ _ _; first | refine Be hG Y Y Y Y Y Y Y (by omega) ?_ | refine Bg hG Y Y Y Y Y Y Y (by omega) ?_ | refine r_sl hG Y Y ?_)
      | (show AOp _ _ ⟨_, .unOp _ _ _, _, _, _, _⟩ _ _ _; refine B2 hG Y Y Y ?_)
      | (show AOp _ _ ⟨_, .buildSlice _ _ _, _, _, _, _⟩ _ _ _; first | refine r_mk (sz := 1) hG Y Y Y Y Y Y Y ?_)
      | (show AOp _ _ ⟨_, .call ⟨.builtin .append, _, _⟩, _, _, _, _⟩ _ _ _; first | refine Bj (sz := 1) (xs := []) hG Y Y Y Y Y Y Y ⟨_, Y⟩ Y Y Y Y Y Y Y (by first | omega | (simp; omega)) (fun k => ?_) | refine Bq 0 hG Y Y Y Y Y Y Y ⟨_, Y⟩ Y Y Y Y Y (by first | omega | (simp only [List.length_append, List.length_cons, List.length_nil]; omega)) (fun k => ?_) | fail)
      | (show AOp _ _ ⟨_, .call ⟨.value _, _, _⟩, _, _, _, _⟩ _ _ _; first | refine A8 Y Y Y Y Y (by apply hc <;> (first | assumption | omega | exact Ab _ _ | exact Ad _ | exact Ae _ _ | exact Ai _ | rfl | (simp; omega))) ?_ | fail)
      | refine r_q hG Y Y Y ?_))
    | (show AL _ _ _ _ _ _ _ _; first | refine Bh Y Y Y ?_ | (refine As ?_; first | show AW _ _ _ _ _ _ | show ∃ x', _ < _ ∧ _)) | (show AW _ _ (.seq _ _) _ _ _; refine Ah ?_; intro Q1) | (show AW _ _ (.region _ _ false) _ _ _; refine Af ?_; intro O1) | (show AW _ _ (.cond _ _ _) _ _ _; first | refine Ak Y ?_ | refine Aj Y ?_) | (show AW _ _ (.skip) _ _ _; refine Al ?_; first | show AW _ _ _ _ _ _ | show ∃ x', _ < _ ∧ _) | (show AW _ _ (.block _ _) _ _ _; refine Ba ?_; intro Q1) | (show AW _ _ (.exit _) _ _ _; refine Bu ?_; first | show AW _ _ _ _ _ _ | show ∃ x', _ < _ ∧ _) | (show AW _ _ (.ret) _ _ _; refine Aq ?_; try dsimp only [Ap, Aa, Ao, Ac]) | fail)
  refine aw_tok0 2 1 rfl rfl rfl rfl (fun k => ?_)
  refine aw_loop (X := RtkX b n) (fun x => [(0, sT b), (3, .int .i64 x.p), (17, .int .u64 n), (18, .int .u64 x.i), (2, .sl 1 (.tok x.k) (x.acc.map sT))]) (fun x => ⟨[], [x.k], off, none⟩) (fun x => n - x.i) ⟨0, Nat.zero_le _, [], rfl, fun s h => absurd h List.not_mem_nil, 1, by omega, rfl, k⟩ ?_ (.refl _) ?_
  · exact .cons rfl (.consW rfl (.int rfl) (.cons rfl (.consW rfl (.int rfl) (.consW rfl (.eq (by simp)) (.nil _)))))
  rintro ⟨i, hi, acc, hacc, hab, p, hp, hrr, k⟩
  dsimp only
  rw [hR] at hrr
  by_cases hib : i < n
  · obtain ⟨m, hm⟩ : ∃ m, n - i = m + 1 := ⟨n - i - 1, by omega⟩
    rw [hm, takeLs] at hrr
    have hd : (b.drop p).length = b.length - p := List.length_drop
    have hc3 := num_TakeBytes (x := sT (b.drop p)) (Ad _) (by omega)
    rcases takeBE_e (b.drop p) with ⟨e1, e2, e3, e4⟩ | e
    · rw [if_pos e1] at hrr
      generalize Cc (b.drop p) = r at *
      obtain ⟨s, q, e⟩ := r
      dsimp only at *
      subst e1
      dsimp only [tbT] at hc3
      repeat' (first
    | ((show AL _ _ _ _ _ _ _ _; refine Ag Y ?_); (first
      | (show AOp _ _ ⟨_, .move _, _, _, _, _⟩ _ _ _; refine Am hG Y Y ?_)
      | (show AOp _ _ ⟨_, .assign _, _, _, _, _⟩ _ _ _; refine A7 hG Y Y ?_)
      | (show AOp _ _ ⟨_, .binOp .add _ _ _ _, _, _, _, _⟩ _ _ _; first | refine Ay hG Y Y Y Y Y (by omega) ?_ | refine r_aru64 hG Y Y Y Y Y (by omega) ?_)
      | (show AOp _ _ ⟨_, .binOp _ _ _ _ _, _, _, _, _⟩ _ _ _; first | refine Av hG Y Y Y Y Y (by omega) ?_ | refine Au hG Y Y Y Y Y (by omega) ?_ | (refine Aw hG Y Y Y Y Y (fun h => ?_) (fun h => ?_)))
      | (show AOp _ _ ⟨_, .slice _ _ _ _ _, _, _, _, _⟩ _ _ _; first | refine Be hG Y Y Y Y Y Y Y (by omega) ?_ | refine Bg hG Y Y Y Y Y Y Y (by omega) ?_ | refine r_sl hG Y Y ?_)
      | (show AOp _ _ ⟨_, .unOp _ _ _, _, _, _, _⟩ _ _ _; refine B2 hG Y Y Y ?_)
      | (show AOp _ _ ⟨_, .buildSlice _ _ _, _, _, _, _⟩ _ _ _; first | refine r_mk (sz := 1) hG Y Y Y Y Y Y Y ?_)
      | (show AOp _ _ ⟨_, .call ⟨.builtin .append, _, _⟩, _, _, _, _⟩ _ _ _; first | refine Bq 0 (ys := [s]) hG Y Y Y Y Y Y Y ⟨_, Y⟩ Y Y Y Y Y (by simp only [List.length_append, List.length_map, List.length_cons, List.length_nil]; omega) (fun k => ?_) | refine Bj (sz := 1) (xs := []) hG Y Y Y Y Y Y Y ⟨_, Y⟩ Y Y Y Y Y Y Y (by first | omega | (simp; omega)) (fun k => ?_) | refine Bq 0 hG Y Y Y Y Y Y Y ⟨_, Y⟩ Y Y Y Y Y (by first | omega | (simp only [List.length_append, List.length_cons, List.length_nil]; omega)) (fun k => ?_) | fail)
      | (show AOp _ _ ⟨_, .call ⟨.value _, _, _⟩, _, _, _, _⟩ _ _ _; first | refine A8 Y Y Y Y Y (by apply hc3 <;> (first | assumption | omega | exact Ab _ _ | exact Ad _ | exact Ae _ _ | exact Ai _ | rfl | (simp; omega))) ?_ | fail)
      | refine r_q hG Y Y Y ?_))
    | (show AL _ _ _ _ _ _ _ _; first | refine Bh Y Y Y ?_ | (refine As ?_; first | show AW _ _ _ _ _ _ | show ∃ x', _ < _ ∧ _)) | (show AW _ _ (.seq _ _) _ _ _; refine Ah ?_; intro Q1) | (show AW _ _ (.region _ _ false) _ _ _; refine Af ?_; intro O1) | (show AW _ _ (.cond _ _ _) _ _ _; first | refine Ak Y ?_ | refine Aj Y ?_) | (show AW _ _ (.skip) _ _ _; refine Al ?_; first | show AW _ _ _ _ _ _ | show ∃ x', _ < _ ∧ _) | (show AW _ _ (.block _ _) _ _ _; refine Ba ?_; intro Q1) | (show AW _ _ (.exit _) _ _ _; refine Bu ?_; first | show AW _ _ _ _ _ _ | show ∃ x', _ < _ ∧ _) | (show AW _ _ (.ret) _ _ _; refine Aq ?_; try dsimp only [Ap, Aa, Ao, Ac]) | fail)
      refine ⟨⟨i + 1, by omega, acc ++ [s], by simp [hacc], fun t ht => ?_, p + q, by omega, by rw [hR, ← hrr]; congr 1; omega, _⟩, by dsimp only; omega, ?_, drop_tok⟩
      · rcases List.mem_append.1 ht with h | h
        · exact hab t h
        · rw [List.mem_singleton.1 h]; exact e4
      · exact .cons rfl (.consW rfl (.int (by simp)) (.cons rfl (.consW rfl (.int (by simp)) (.cons rfl (.nil _)))))
    · rw [e, if_neg (by decide)] at hrr
      rw [e] at hc3
      dsimp only [tbT] at hc3
      subst hrr
      repeat' (first
    | ((show AL _ _ _ _ _ _ _ _; refine Ag Y ?_); (first
      | (show AOp _ _ ⟨_, .move _, _, _, _, _⟩ _ _ _; refine Am hG Y Y ?_)
      | (show AOp _ _ ⟨_, .assign _, _, _, _, _⟩ _ _ _; refine A7 hG Y Y ?_)
      | (show AOp _ _ ⟨_, .binOp .add _ _ _ _, _, _, _, _⟩ _ _ _; first | refine Ay hG Y Y Y Y Y (by omega) ?_ | refine r_aru64 hG Y Y Y Y Y (by omega) ?_)
      | (show AOp _ _ ⟨_, .binOp _ _ _ _ _, _, _, _, _⟩ _ _ _; first | refine Av hG Y Y Y Y Y (by omega) ?_ | refine Au hG Y Y Y Y Y (by omega) ?_ | (refine Aw hG Y Y Y Y Y (fun h => ?_) (fun h => ?_)))
      | (show AOp _ _ ⟨_, .slice _ _ _ _ _, _, _, _, _⟩ _ _ _; first | refine Be hG Y Y Y Y Y Y Y (by omega) ?_ | refine Bg hG Y Y Y Y Y Y Y (by omega) ?_ | refine r_sl hG Y Y ?_)
      | (show AOp _ _ ⟨_, .unOp _ _ _, _, _, _, _⟩ _ _ _; refine B2 hG Y Y Y ?_)
      | (show AOp _ _ ⟨_, .buildSlice _ _ _, _, _, _, _⟩ _ _ _; first | refine r_mk (sz := 1) hG Y Y Y Y Y Y Y ?_)
      | (show AOp _ _ ⟨_, .call ⟨.builtin .append, _, _⟩, _, _, _, _⟩ _ _ _; first | refine Bj (sz := 1) (xs := []) hG Y Y Y Y Y Y Y ⟨_, Y⟩ Y Y Y Y Y Y Y (by first | omega | (simp; omega)) (fun k => ?_) | refine Bq 0 hG Y Y Y Y Y Y Y ⟨_, Y⟩ Y Y Y Y Y (by first | omega | (simp only [List.length_append, List.length_cons, List.length_nil]; omega)) (fun k => ?_) | fail)
      | (show AOp _ _ ⟨_, .call ⟨.value _, _, _⟩, _, _, _, _⟩ _ _ _; first | refine A8 Y Y Y Y Y (by apply hc3 <;> (first | assumption | omega | exact Ab _ _ | exact Ad _ | exact Ae _ _ | exact Ai _ | rfl | (simp; omega))) ?_ | fail)
      | refine r_q hG Y Y Y ?_))
    | (show AL _ _ _ _ _ _ _ _; first | refine Bh Y Y Y ?_ | (refine As ?_; first | show AW _ _ _ _ _ _ | show ∃ x', _ < _ ∧ _)) | (show AW _ _ (.seq _ _) _ _ _; refine Ah ?_; intro Q1) | (show AW _ _ (.region _ _ false) _ _ _; refine Af ?_; intro O1) | (show AW _ _ (.cond _ _ _) _ _ _; first | refine Ak Y ?_ | refine Aj Y ?_) | (show AW _ _ (.skip) _ _ _; refine Al ?_; first | show AW _ _ _ _ _ _ | show ∃ x', _ < _ ∧ _) | (show AW _ _ (.block _ _) _ _ _; refine Ba ?_; intro Q1) | (show AW _ _ (.exit _) _ _ _; refine Bu ?_; first | show AW _ _ _ _ _ _ | show ∃ x', _ < _ ∧ _) | (show AW _ _ (.ret) _ _ _; refine Aq ?_; try dsimp only [Ap, Aa, Ao, Ac]) | fail)
      exact Bb (Ar rfl (Ar rfl (Ar rfl A9))) (Wk.tupL (wk3 (.nil 1) (.refl _) (.refl _))) rfl
  · obtain rfl : i = n := by omega
    rw [Nat.sub_self, takeLs] at hrr
    subst hrr
    have hm := r_May (x := .sl 1 (.tok k) (acc.map sT)) (lettersT_map _ _) (by unfold Ca; omega) (fun s hs => by have := hab s hs; unfold Ca; omega)
    cases hma : mayL acc <;> rw [hma] at hm
    · repeat' (first
    | ((show AL _ _ _ _ _ _ _ _; refine Ag Y ?_); (first
      | (show AOp _ _ ⟨_, .move _, _, _, _, _⟩ _ _ _; refine Am hG Y Y ?_)
      | (show AOp _ _ ⟨_, .assign _, _, _, _, _⟩ _ _ _; refine A7 hG Y Y ?_)
      | (show AOp _ _ ⟨_, .binOp .add _ _ _ _, _, _, _, _⟩ _ _ _; first | refine Ay hG Y Y Y Y Y (by omega) ?_ | refine r_aru64 hG Y Y Y Y Y (by omega) ?_)
      | (show AOp _ _ ⟨_, .binOp _ _ _ _ _, _, _, _, _⟩ _ _ _; first | refine Av hG Y Y Y Y Y (by omega) ?_ | refine Au hG Y Y Y Y Y (by omega) ?_ | (refine Aw hG Y Y Y Y Y (fun h => ?_) (fun h => ?_)))
      | (show AOp _ _ ⟨_, .slice _ _ _ _ _, _, _, _, _⟩ _ _ _; first | refine Be hG Y Y Y Y Y Y Y (by omega) ?_ | refine Bg hG Y Y Y Y Y Y Y (by omega) ?_ | refine r_sl hG Y Y ?_)
      | (show AOp _ _ ⟨_, .unOp _ _ _, _, _, _, _⟩ _ _ _; refine B2 hG Y Y Y ?_)
      | (show AOp _ _ ⟨_, .buildSlice _ _ _, _, _, _, _⟩ _ _ _; first | refine r_mk (sz := 1) hG Y Y Y Y Y Y Y ?_)
      | (show AOp _ _ ⟨_, .call ⟨.builtin .append, _, _⟩, _, _, _, _⟩ _ _ _; first | refine Bj (sz := 1) (xs := []) hG Y Y Y Y Y Y Y ⟨_, Y⟩ Y Y Y Y Y Y Y (by first | omega | (simp; omega)) (fun k => ?_) | refine Bq 0 hG Y Y Y Y Y Y Y ⟨_, Y⟩ Y Y Y Y Y (by first | omega | (simp only [List.length_append, List.length_cons, List.length_nil]; omega)) (fun k => ?_) | fail)
      | (show AOp _ _ ⟨_, .call ⟨.value _, _, _⟩, _, _, _, _⟩ _ _ _; first | refine A8 Y Y Y Y Y (by apply hm <;> (first | assumption | omega | exact Ab _ _ | exact Ad _ | exact Ae _ _ | exact Ai _ | rfl | (simp; omega))) ?_ | fail)
      | refine r_q hG Y Y Y ?_))
    | (show AL _ _ _ _ _ _ _ _; first | refine Bh Y Y Y ?_ | (refine As ?_; first | show AW _ _ _ _ _ _ | show ∃ x', _ < _ ∧ _)) | (show AW _ _ (.seq _ _) _ _ _; refine Ah ?_; intro Q1) | (show AW _ _ (.region _ _ false) _ _ _; refine Af ?_; intro O1) | (show AW _ _ (.cond _ _ _) _ _ _; first | refine Ak Y ?_ | refine Aj Y ?_) | (show AW _ _ (.skip) _ _ _; refine Al ?_; first | show AW _ _ _ _ _ _ | show ∃ x', _ < _ ∧ _) | (show AW _ _ (.block _ _) _ _ _; refine Ba ?_; intro Q1) | (show AW _ _ (.exit _) _ _ _; refine Bu ?_; first | show AW _ _ _ _ _ _ | show ∃ x', _ < _ ∧ _) | (show AW _ _ (.ret) _ _ _; refine Aq ?_; try dsimp only [Ap, Aa, Ao, Ac]) | fail)
      refine Bb (Ar rfl (Ar rfl (Ar rfl A9))) ?_ rfl
      simp only [hma, trT]
      exact Wk.tupL (wk3 (.nil 1) (.refl _) (.refl _))
    · repeat' (first
    | ((show AL _ _ _ _ _ _ _ _; refine Ag Y ?_); (first
      | (show AOp _ _ ⟨_, .move _, _, _, _, _⟩ _ _ _; refine Am hG Y Y ?_)
      | (show AOp _ _ ⟨_, .assign _, _, _, _, _⟩ _ _ _; refine A7 hG Y Y ?_)
      | (show AOp _ _ ⟨_, .binOp .add _ _ _ _, _, _, _, _⟩ _ _ _; first | refine Ay hG Y Y Y Y Y (by omega) ?_ | refine r_aru64 hG Y Y Y Y Y (by omega) ?_)
      | (show AOp _ _ ⟨_, .binOp _ _ _ _ _, _, _, _, _⟩ _ _ _; first | refine Av hG Y Y Y Y Y (by omega) ?_ | refine Au hG Y Y Y Y Y (by omega) ?_ | (refine Aw hG Y Y Y Y Y (fun h => ?_) (fun h => ?_)))
      | (show AOp _ _ ⟨_, .slice _ _ _ _ _, _, _, _, _⟩ _ _ _; first | refine Be hG Y Y Y Y Y Y Y (by omega) ?_ | refine Bg hG Y Y Y Y Y Y Y (by omega) ?_ | refine r_sl hG Y Y ?_)
      | (show AOp _ _ ⟨_, .unOp _ _ _, _, _, _, _⟩ _ _ _; refine B2 hG Y Y Y ?_)
      | (show AOp _ _ ⟨_, .buildSlice _ _ _, _, _, _, _⟩ _ _ _; first | refine r_mk (sz := 1) hG Y Y Y Y Y Y Y ?_)
      | (show AOp _ _ ⟨_, .call ⟨.builtin .append, _, _⟩, _, _, _, _⟩ _ _ _; first | refine Bj (sz := 1) (xs := []) hG Y Y Y Y Y Y Y ⟨_, Y⟩ Y Y Y Y Y Y Y (by first | omega | (simp; omega)) (fun k => ?_) | refine Bq 0 hG Y Y Y Y Y Y Y ⟨_, Y⟩ Y Y Y Y Y (by first | omega | (simp only [List.length_append, List.length_cons, List.length_nil]; omega)) (fun k => ?_) | fail)
      | (show AOp _ _ ⟨_, .call ⟨.value _, _, _⟩, _, _, _, _⟩ _ _ _; first | refine A8 Y Y Y Y Y (by apply hm <;> (first | assumption | omega | exact Ab _ _ | exact Ad _ | exact Ae _ _ | exact Ai _ | rfl | (simp; omega))) ?_ | fail)
      | refine r_q hG Y Y Y ?_))
    | (show AL _ _ _ _ _ _ _ _; first | refine Bh Y Y Y ?_ | (refine As ?_; first | show AW _ _ _ _ _ _ | show ∃ x', _ < _ ∧ _)) | (show AW _ _ (.seq _ _) _ _ _; refine Ah ?_; intro Q1) | (show AW _ _ (.region _ _ false) _ _ _; refine Af ?_; intro O1) | (show AW _ _ (.cond _ _ _) _ _ _; first | refine Ak Y ?_ | refine Aj Y ?_) | (show AW _ _ (.skip) _ _ _; refine Al ?_; first | show AW _ _ _ _ _ _ | show ∃ x', _ < _ ∧ _) | (show AW _ _ (.block _ _) _ _ _; refine Ba ?_; intro Q1) | (show AW _ _ (.exit _) _ _ _; refine Bu ?_; first | show AW _ _ _ _ _ _ | show ∃ x', _ < _ ∧ _) | (show AW _ _ (.ret) _ _ _; refine Aq ?_; try dsimp only [Ap, Aa, Ao, Ac]) | fail)
      refine Bb (Ar rfl (Ar rfl (Ar rfl A9))) ?_ rfl
      simp only [hma, trT]
      exact Wk.tupL (wk3 (Wk.own _ _ _) (.refl _) (.refl _))
attribute [local irreducible] putR takeR mayL placeN
theorem r_Take_is {x : T} {b : List UInt8} {r : List (List UInt8) × Nat × Int} (hx : bytesT x = some b) (hl : b.length ≤ 4294967296) (h : takeR b = r) : Ts.Pure Try.prog 69 [x] (.tup [lT r.1, .int .i64 r.2.1, .int .i64 r.2.2]) := by
  subst h; exact r_Take hx hl
end Go.Proofs.Ytholeicgmkjadaa
namespace Go.Proofs.Ytholeicgmkjadaa
open Go.Ts Go.Sets
attribute [local irreducible] Go.Ts.AW Go.Ts.AOps Go.Ts.AL Go.Ts.AOp Go.Ts.ACalls Go.Ts.DL Go.Ts.DQ Go.Ts.EL
structure MSX (a : List UInt16) where
  i : Nat
  hi : 1 ≤ i
  hp : ∀ j, j + 1 < i → j + 1 < a.length → a.getD j default < a.getD (j + 1) default
theorem ref_MaySet {x : T} {a : List UInt16} (hx : catsT x = some a) (hl : a.length ≤ 140737488351232) : Pure Try.prog 50 [x] (.bool (mayC a)) := by
  refine Pure.weak (us := [cT a]) ?_ (wk1 (catsT_wk hx))
  intro off
  refine Bs (N := 23) (rs := [.tmp 2]) hG Try.func50 rfl rfl rfl rfl rfl ?_
  repeat' (first
    | ((first | (show AL _ _ _ _ _ _ _ _; refine Ag Y ?_) | (show DL _ _ _ _ _ _ _; refine' Bt Y Y (fun K kk => ?_) ?_; try (show Go.Ts.T; rotate_left))); (first
      | (show AOp _ _ ⟨_, .move _, _, _, _, _⟩ _ _ _; refine Am hG Y Y ?_)
      | (show AOp _ _ ⟨_, .assign _, _, _, _, _⟩ _ _ _; refine A7 hG Y Y ?_)
      | (show AOp _ _ ⟨_, .call ⟨.builtin .len, _, _⟩, _, _, _, _⟩ _ _ _; first | refine Ax hG Y Y Y Y ?_ | refine Bd hG Y Y Y Y Y ?_)
      | (show AOp _ _ ⟨_, .binOp .add _ _ _ _, _, _, _, _⟩ _ _ _; first | refine Ay hG Y Y Y Y Y (by omega) ?_)
      | (show AOp _ _ ⟨_, .binOp .sub _ _ _ _, _, _, _, _⟩ _ _ _; first | refine Ay hG Y Y Y Y Y (by omega) ?_)
      | (show AOp _ _ ⟨_, .binOp _ _ _ _ _, _, _, _, _⟩ _ _ _; first | refine Av hG Y Y Y Y Y (by omega) ?_ | refine Au hG Y Y Y Y Y (by omega) ?_ | ((fail_if_success have := kk); refine Aw hG Y Y Y Y Y (fun h => ?_) (fun h => ?_)))
      | (show AOp _ _ ⟨_, .load _ _, _, _, _, _⟩ _ _ _; first | refine Bl hG Y Y Y ?_ | refine Az 0 hG Y Y Y Y ?_)
      | (show AOp _ _ ⟨_, .indexAddr _ _ _, _, _, _, _⟩ _ _ _; first | refine Bm hG Y Y Y Y Y Y Y (by omega) ?_ | refine Bk hG Y Y Y Y Y Y Y (by omega) ?_ | refine Bx hG Y Y ?_)
      | refine r_q hG Y Y Y ?_); try exact kk)
    | (show AL _ _ _ _ _ _ _ _; first | refine Bh Y Y Y ?_ | (refine As ?_; first | show AW _ _ _ _ _ _ | show ∃ x', _ < _ ∧ _)) | (show AW _ _ (.seq _ _) _ _ _; refine Ah ?_; intro Q1) | (show AW _ _ (.region _ _ false) _ _ _; refine Af ?_; intro O1) | (show AW _ _ (.cond _ _ _) _ _ _; first | refine Ak Y ?_ | refine Aj Y ?_) | (show AW _ _ (.skip) _ _ _; refine Al ?_; first | show AW _ _ _ _ _ _ | show ∃ x', _ < _ ∧ _) | (show AW _ _ (.block _ _) _ _ _; refine Ba ?_; intro Q1) | (show AW _ _ (.exit _) _ _ _; refine Bu ?_; first | show AW _ _ _ _ _ _ | show ∃ x', _ < _ ∧ _) | (show AW _ _ (.ret) _ _ _; refine Aq ?_; try dsimp only [Ap, Aa, Ao, Ac])
    | (show DL _ _ _ _ _ _ _; refine dl_d Y Y (fun K kt kf => Aw hG Y Y Y Y Y kt kf) (fun h => ?_) (fun h => ?_))
    | (show DL _ _ _ _ _ _ _; refine dl_s Y Y Y ?_) | (show DL _ _ _ _ _ _ _; refine B0 ?_; first | show AW _ _ _ _ _ _ | show ∃ x', _ < _ ∧ _) | (show AW _ _ (.region _ _ true) _ _ _; refine Bp mix (by kernel_rfl) ?_; intro O1) | fail)
  refine aw_loop (X := MSX a) (fun x => [(0, cT a), (3, .int .i64 x.i)]) (fun x => ⟨[], [], off, none⟩) (fun x => a.length - x.i) ⟨1, by omega, fun j h1 h2 => by omega⟩ ?_ (.refl _) ?_
  · exact .cons rfl (.consW rfl (.int rfl) (.nil _))
  rintro ⟨i, hi, hp⟩
  dsimp only
  obtain ⟨i, rfl⟩ : ∃ j, i = j + 1 := ⟨i - 1, by omega⟩
  by_cases hib : i + 1 < a.length
  · have e : (((i + 1 : Nat) : Int) - 1).toNat = i := by omega
    repeat' (first
    | ((first | (show AL _ _ _ _ _ _ _ _; refine Ag Y ?_) | (show DL _ _ _ _ _ _ _; refine' Bt Y Y (fun K kk => ?_) ?_; try (show Go.Ts.T; rotate_left))); (first
      | (show AOp _ _ ⟨_, .move _, _, _, _, _⟩ _ _ _; refine Am hG Y Y ?_)
      | (show AOp _ _ ⟨_, .assign _, _, _, _, _⟩ _ _ _; refine A7 hG Y Y ?_)
      | (show AOp _ _ ⟨_, .call ⟨.builtin .len, _, _⟩, _, _, _, _⟩ _ _ _; first | refine Ax hG Y Y Y Y ?_ | refine Bd hG Y Y Y Y Y ?_)
      | (show AOp _ _ ⟨_, .binOp .add _ _ _ _, _, _, _, _⟩ _ _ _; first | refine Ay hG Y Y Y Y Y (by omega) ?_)
      | (show AOp _ _ ⟨_, .binOp .sub _ _ _ _, _, _, _, _⟩ _ _ _; first | refine Ay hG Y Y Y Y Y (by omega) ?_)
      | (show AOp _ _ ⟨_, .binOp _ _ _ _ _, _, _, _, _⟩ _ _ _; first | refine Av hG Y Y Y Y Y (by omega) ?_ | refine Au hG Y Y Y Y Y (by omega) ?_ | ((fail_if_success have := kk); refine Aw hG Y Y Y Y Y (fun h => ?_) (fun h => ?_)))
      | (show AOp _ _ ⟨_, .load _ _, _, _, _, _⟩ _ _ _; first | refine Bl hG Y Y Y ?_ | refine Az 0 hG Y Y Y Y ?_)
      | (show AOp _ _ ⟨_, .indexAddr _ _ _, _, _, _, _⟩ _ _ _; first | refine Bm hG Y Y Y Y Y Y Y (by omega) ?_ | refine Bk hG Y Y Y Y Y Y Y (by omega) ?_ | refine Bx hG Y Y ?_)
      | refine r_q hG Y Y Y ?_); try exact kk)
    | (show AL _ _ _ _ _ _ _ _; first | refine Bh Y Y Y ?_ | (refine As ?_; first | show AW _ _ _ _ _ _ | show ∃ x', _ < _ ∧ _)) | (show AW _ _ (.seq _ _) _ _ _; refine Ah ?_; intro Q1) | (show AW _ _ (.region _ _ false) _ _ _; refine Af ?_; intro O1) | (show AW _ _ (.cond _ _ _) _ _ _; first | refine Ak Y ?_ | refine Aj Y ?_) | (show AW _ _ (.skip) _ _ _; refine Al ?_; first | show AW _ _ _ _ _ _ | show ∃ x', _ < _ ∧ _) | (show AW _ _ (.block _ _) _ _ _; refine Ba ?_; intro Q1) | (show AW _ _ (.exit _) _ _ _; refine Bu ?_; first | show AW _ _ _ _ _ _ | show ∃ x', _ < _ ∧ _) | (show AW _ _ (.ret) _ _ _; refine Aq ?_; try dsimp only [Ap, Aa, Ao, Ac])
    | (show DL _ _ _ _ _ _ _; refine dl_d Y Y (fun K kt kf => Aw hG Y Y Y Y Y kt kf) (fun h => ?_) (fun h => ?_))
    | (show DL _ _ _ _ _ _ _; refine dl_s Y Y Y ?_) | (show DL _ _ _ _ _ _ _; refine B0 ?_; first | show AW _ _ _ _ _ _ | show ∃ x', _ < _ ∧ _) | (show AW _ _ (.region _ _ true) _ _ _; refine Bp mix (by kernel_rfl) ?_; intro O1) | fail)
    · rw [e] at h
      refine Bb (Ar rfl A9) (.eq ?_) rfl
      have : risesB a = false := Bool.eq_false_iff.2 fun hr => by
        have := (rises_adj a).1 hr i hib
        rw [UInt16.lt_iff_toNat_lt] at this; omega
      rw [mayC, this, Bool.and_false]; rfl
    · rw [e] at h
      refine ⟨⟨i + 2, by omega, fun j h1 h2 => ?_⟩, by dsimp only; omega, ?_, .refl _⟩
      · by_cases hj : j + 1 < i + 1
        · exact hp j hj h2
        · obtain rfl : j = i := by omega
          rw [UInt16.lt_iff_toNat_lt]; omega
      · exact .cons rfl (.consW rfl (.int (by simp; omega)) (.nil _))
  · have : risesB a = true := (rises_adj a).2 fun j hj => hp j (by omega) hj
    by_cases h16 : a.length ≤ 16
    · repeat' (first
    | ((first | (show AL _ _ _ _ _ _ _ _; refine Ag Y ?_) | (show DL _ _ _ _ _ _ _; refine' Bt Y Y (fun K kk => ?_) ?_; try (show Go.Ts.T; rotate_left))); (first
      | (show AOp _ _ ⟨_, .move _, _, _, _, _⟩ _ _ _; refine Am hG Y Y ?_)
      | (show AOp _ _ ⟨_, .assign _, _, _, _, _⟩ _ _ _; refine A7 hG Y Y ?_)
      | (show AOp _ _ ⟨_, .call ⟨.builtin .len, _, _⟩, _, _, _, _⟩ _ _ _; first | refine Ax hG Y Y Y Y ?_ | refine Bd hG Y Y Y Y Y ?_)
      | (show AOp _ _ ⟨_, .binOp .add _ _ _ _, _, _, _, _⟩ _ _ _; first | refine Ay hG Y Y Y Y Y (by omega) ?_)
      | (show AOp _ _ ⟨_, .binOp .sub _ _ _ _, _, _, _, _⟩ _ _ _; first | refine Ay hG Y Y Y Y Y (by omega) ?_)
      | (show AOp _ _ ⟨_, .binOp _ _ _ _ _, _, _, _, _⟩ _ _ _; first | refine Av hG Y Y Y Y Y (by omega) ?_ | refine Au hG Y Y Y Y Y (by omega) ?_ | ((fail_if_success have := kk); refine Aw hG Y Y Y Y Y (fun h => ?_) (fun h => ?_)))
      | (show AOp _ _ ⟨_, .load _ _, _, _, _, _⟩ _ _ _; first | refine Bl hG Y Y Y ?_ | refine Az 0 hG Y Y Y Y ?_)
      | (show AOp _ _ ⟨_, .indexAddr _ _ _, _, _, _, _⟩ _ _ _; first | refine Bm hG Y Y Y Y Y Y Y (by omega) ?_ | refine Bk hG Y Y Y Y Y Y Y (by omega) ?_ | refine Bx hG Y Y ?_)
      | refine r_q hG Y Y Y ?_); try exact kk)
    | (show AL _ _ _ _ _ _ _ _; first | refine Bh Y Y Y ?_ | (refine As ?_; first | show AW _ _ _ _ _ _ | show ∃ x', _ < _ ∧ _)) | (show AW _ _ (.seq _ _) _ _ _; refine Ah ?_; intro Q1) | (show AW _ _ (.region _ _ false) _ _ _; refine Af ?_; intro O1) | (show AW _ _ (.cond _ _ _) _ _ _; first | refine Ak Y ?_ | refine Aj Y ?_) | (show AW _ _ (.skip) _ _ _; refine Al ?_; first | show AW _ _ _ _ _ _ | show ∃ x', _ < _ ∧ _) | (show AW _ _ (.block _ _) _ _ _; refine Ba ?_; intro Q1) | (show AW _ _ (.exit _) _ _ _; refine Bu ?_; first | show AW _ _ _ _ _ _ | show ∃ x', _ < _ ∧ _) | (show AW _ _ (.ret) _ _ _; refine Aq ?_; try dsimp only [Ap, Aa, Ao, Ac])
    | (show DL _ _ _ _ _ _ _; refine dl_d Y Y (fun K kt kf => Aw hG Y Y Y Y Y kt kf) (fun h => ?_) (fun h => ?_))
    | (show DL _ _ _ _ _ _ _; refine dl_s Y Y Y ?_) | (show DL _ _ _ _ _ _ _; refine B0 ?_; first | show AW _ _ _ _ _ _ | show ∃ x', _ < _ ∧ _) | (show AW _ _ (.region _ _ true) _ _ _; refine Bp mix (by kernel_rfl) ?_; intro O1) | fail)
      refine Bb (Ar rfl A9) (.eq ?_) rfl
      rw [mayC, this, Bool.and_true, decide_eq_true h16]; rfl
    · repeat' (first
    | ((first | (show AL _ _ _ _ _ _ _ _; refine Ag Y ?_) | (show DL _ _ _ _ _ _ _; refine' Bt Y Y (fun K kk => ?_) ?_; try (show Go.Ts.T; rotate_left))); (first
      | (show AOp _ _ ⟨_, .move _, _, _, _, _⟩ _ _ _; refine Am hG Y Y ?_)
      | (show AOp _ _ ⟨_, .assign _, _, _, _, _⟩ _ _ _; refine A7 hG Y Y ?_)
      | (show AOp _ _ ⟨_, .call ⟨.builtin .len, _, _⟩, _, _, _, _⟩ _ _ _; first | refine Ax hG Y Y Y Y ?_ | refine Bd hG Y Y Y Y Y ?_)
      | (show AOp _ _ ⟨_, .binOp .add _ _ _ _, _, _, _, _⟩ _ _ _; first | refine Ay hG Y Y Y Y Y (by omega) ?_)
      | (show AOp _ _ ⟨_, .binOp .sub _ _ _ _, _, _, _, _⟩ _ _ _; first | refine Ay hG Y Y Y Y Y (by omega) ?_)
      | (show AOp _ _ ⟨_, .binOp _ _ _ _ _, _, _, _, _⟩ _ _ _; first | refine Av hG Y Y Y Y Y (by omega) ?_ | refine Au hG Y Y Y Y Y (by omega) ?_ | ((fail_if_success have := kk); refine Aw hG Y Y Y Y Y (fun h => ?_) (fun h => ?_)))
      | (show AOp _ _ ⟨_, .load _ _, _, _, _, _⟩ _ _ _; first | refine Bl hG Y Y Y ?_ | refine Az 0 hG Y Y Y Y ?_)
      | (show AOp _ _ ⟨_, .indexAddr _ _ _, _, _, _, _⟩ _ _ _; first | refine Bm hG Y Y Y Y Y Y Y (by omega) ?_ | refine Bk hG Y Y Y Y Y Y Y (by omega) ?_ | refine Bx hG Y Y ?_)
      | refine r_q hG Y Y Y ?_); try exact kk)
    | (show AL _ _ _ _ _ _ _ _; first | refine Bh Y Y Y ?_ | (refine As ?_; first | show AW _ _ _ _ _ _ | show ∃ x', _ < _ ∧ _)) | (show AW _ _ (.seq _ _) _ _ _; refine Ah ?_; intro Q1) | (show AW _ _ (.region _ _ false) _ _ _; refine Af ?_; intro O1) | (show AW _ _ (.cond _ _ _) _ _ _; first | refine Ak Y ?_ | refine Aj Y ?_) | (show AW _ _ (.skip) _ _ _; refine Al ?_; first | show AW _ _ _ _ _ _ | show ∃ x', _ < _ ∧ _) | (show AW _ _ (.block _ _) _ _ _; refine Ba ?_; intro Q1) | (show AW _ _ (.exit _) _ _ _; refine Bu ?_; first | show AW _ _ _ _ _ _ | show ∃ x', _ < _ ∧ _) | (show AW _ _ (.ret) _ _ _; refine Aq ?_; try dsimp only [Ap, Aa, Ao, Ac])
    | (show DL _ _ _ _ _ _ _; refine dl_d Y Y (fun K kt kf => Aw hG Y Y Y Y Y kt kf) (fun h => ?_) (fun h => ?_))
    | (show DL _ _ _ _ _ _ _; refine dl_s Y Y Y ?_) | (show DL _ _ _ _ _ _ _; refine B0 ?_; first | show AW _ _ _ _ _ _ | show ∃ x', _ < _ ∧ _) | (show AW _ _ (.region _ _ true) _ _ _; refine Bp mix (by kernel_rfl) ?_; intro O1) | fail)
      refine Bb (Ar rfl A9) (.eq ?_) rfl
      rw [mayC, decide_eq_false h16]; rfl

theorem ins_at {x : UInt16} : ∀ (l : List UInt16) (n : Nat), n ≤ l.length → (∀ j, j < n → l.getD j default < x) → (n < l.length → ¬ l.getD n default < x) →
    ins x l = if n < l.length ∧ l.getD n default = x then l else l.take n ++ x :: l.drop n
  | [], n, hn, _, _ => by
    have : n = 0 := by simpa using hn
    subst this; simp [ins]
  | y :: l, 0, _, _, h => by
    have h0 : ¬ y < x := by simpa using h (by simp)
    rw [ins]
    by_cases h1 : x < y
    · rw [if_pos h1, if_neg (by simp; exact fun e => lt_irrefl x (e ▸ h1 : x < x))]; rfl
    · have : x = y := by rcases lt_or (x := x) (y := y) with h | h | h
                         · exact absurd h h1
                         · exact h
                         · exact absurd h h0
      subst this
      rw [if_neg h1, if_pos rfl, if_pos (by simp)]
  | y :: l, n + 1, hn, hb, h => by
    have h0 : y < x := by simpa using hb 0 (by omega)
    rw [ins, if_neg (lt_asymm h0), if_neg (fun e => lt_irrefl x (by rw [e] at h0 ⊢; exact (e ▸ h0))),
      ins_at l n (by simpa using hn) (fun j hj => by simpa using hb (j + 1) (by omega)) (fun hj => by simpa using h (by simpa using hj))]
    by_cases hc : n < l.length ∧ l.getD n default = x
    · rw [if_pos hc, if_pos (by simpa using hc)]
    · rw [if_neg hc, if_neg (by simpa using hc)]; rfl
theorem mk_snoc (l : List UInt16) (x : UInt16) : mk (l ++ [x]) = ins x (mk l) := by simp [mk, List.foldl_append]

structure MkX (a : List UInt16) where
  i : Nat
  k : Nat
  hi : i ≤ a.length
structure MkY (l : List UInt16) (x : UInt16) where
  n : Nat
  hn : n ≤ l.length
  hb : ∀ j, j < n → l.getD j default < x
set_option maxHeartbeats 800000 in
theorem ref_Make {x : T} {a : List UInt16} (hx : catsT x = some a) (hl : a.length ≤ 4294967000) : Owns Try.prog 20 [x] 1 ((mk a).map hT) := by
  refine Owns.weak (us := [cT a]) ?_ (wk1 (catsT_wk hx))
  intro off
  refine Bs (N := 60) (rs := [.tmp 2]) hG Try.func20 rfl rfl rfl rfl rfl ?_
  repeat' (first
    | ((first | (show AL _ _ _ _ _ _ _ _; refine Ag Y ?_) | (show DL _ _ _ _ _ _ _; refine' Bt Y Y (fun K kk => ?_) ?_; try (show Go.Ts.T; rotate_left))); (first
      | (show AOp _ _ ⟨_, .move _, _, _, _, _⟩ _ _ _; refine Am hG Y Y ?_)
      | (show AOp _ _ ⟨_, .assign _, _, _, _, _⟩ _ _ _; refine A7 hG Y Y ?_)
      | (show AOp _ _ ⟨_, .call ⟨.builtin .len, _, _⟩, _, _, _, _⟩ _ _ _; first | refine Ax hG Y Y Y Y ?_ | refine Bd hG Y Y Y Y Y ?_)
      | (show AOp _ _ ⟨_, .binOp .add _ _ _ _, _, _, _, _⟩ _ _ _; first | refine Ay hG Y Y Y Y Y (by omega) ?_)
      | (show AOp _ _ ⟨_, .binOp _ _ _ _ _, _, _, _, _⟩ _ _ _; first | refine Av hG Y Y Y Y Y (by omega) ?_ | refine Au hG Y Y Y Y Y (by omega) ?_ | ((fail_if_success have := kk); refine Aw hG Y Y Y Y Y (fun h => ?_) (fun h => ?_)))
      | (show AOp _ _ ⟨_, .load _ _, _, _, _, _⟩ _ _ _; first | refine Bl hG Y Y Y ?_ | refine Az 0 hG Y Y Y Y ?_)
      | (show AOp _ _ ⟨_, .indexAddr _ _ _, _, _, _, _⟩ _ _ _; first | refine Bm hG Y Y Y Y Y Y Y (by omega) ?_ | refine Bk hG Y Y Y Y Y Y Y (by omega) ?_ | refine Bx hG Y Y ?_)
      | (show AOp _ _ ⟨_, .slice _ _ _ _ _, _, _, _, _⟩ _ _ _; first | refine Be hG Y Y Y Y Y Y Y (by omega) ?_ | refine Cg hG Y Y Y Y Y Y Y (by omega) ?_ | refine Bg hG Y Y Y Y Y Y Y (by omega) ?_ | refine r_sl_hi hG Y Y Y Y Y Y Y (by omega) ?_ | refine Cj hG Y Y Y Y Y Y Y Y Y Y ?_ | refine r_sl hG Y Y ?_)
      | (show AOp _ _ ⟨_, .pick _ _ _, _, _, _, _⟩ _ _ _; refine Bf hG Y Y Y ?_)
      | (show AOp _ _ ⟨_, .buildSlice _ _ _, _, _, _, _⟩ _ _ _; first | refine r_mk (sz := 1) hG Y Y Y Y Y Y Y ?_)
      | (show AOp _ _ ⟨_, .call ⟨.builtin .append, _, _⟩, _, _, _, _⟩ _ _ _; first | refine Bj (sz := 1) (xs := []) hG Y Y Y Y Y Y Y ⟨_, Y⟩ Y Y Y Y Y Y Y (by first | omega | (simp; omega)) (fun k => ?_) | refine Bq 0 hG Y Y Y Y Y Y Y ⟨_, Y⟩ Y Y Y Y Y (by first | omega | (simp only [List.length_append, List.length_cons, List.length_nil]; omega)) (fun k => ?_) | fail)
      | refine r_q hG Y Y Y ?_); try exact kk)
    | (show AL _ _ _ _ _ _ _ _; first | refine Bh Y Y Y ?_ | (refine As ?_; first | show AW _ _ _ _ _ _ | show ∃ x', _ < _ ∧ _)) | (show AW _ _ (.seq _ _) _ _ _; refine Ah ?_; intro Q1) | (show AW _ _ (.region _ _ false) _ _ _; refine Af ?_; intro O1) | (show AW _ _ (.cond _ _ _) _ _ _; first | refine Ak Y ?_ | refine Aj Y ?_) | (show AW _ _ (.skip) _ _ _; refine Al ?_; first | show AW _ _ _ _ _ _ | show ∃ x', _ < _ ∧ _) | (show AW _ _ (.block _ _) _ _ _; refine Ba ?_; intro Q1) | (show AW _ _ (.exit _) _ _ _; refine Bu ?_; first | show AW _ _ _ _ _ _ | show ∃ x', _ < _ ∧ _) | (show AW _ _ (.ret) _ _ _; refine Aq ?_; try dsimp only [Ap, Aa, Ao, Ac])
    | (show DL _ _ _ _ _ _ _; refine dl_d Y Y (fun K kt kf => Aw hG Y Y Y Y Y kt kf) (fun h => ?_) (fun h => ?_))
    | (show DL _ _ _ _ _ _ _; refine dl_s Y Y Y ?_) | (show DL _ _ _ _ _ _ _; refine B0 ?_; first | show AW _ _ _ _ _ _ | show ∃ x', _ < _ ∧ _) | (show AW _ _ (.region _ _ true) _ _ _; refine Bp mix (by kernel_rfl) ?_; intro O1) | fail)
  refine aw_tok0 3 1 rfl rfl rfl rfl (fun k => ?_)
  refine aw_loop (X := MkX a) (fun x => [(0, cT a), (4, .int .i64 x.i), (3, .sl 1 (.tok x.k) ((mk (a.take x.i)).map hT))]) (fun x => ⟨[], [x.k], off, none⟩) (fun x => a.length - x.i) ⟨0, k, Nat.zero_le _⟩ ?_ (.refl _) ?_
  · exact .cons rfl (.consW rfl (.int rfl) (.consW rfl (.eq (by simp [mk])) (.nil _)))
  rintro ⟨i, k, hi⟩
  dsimp only
  by_cases hib : i < a.length
  · have hml := mk_length_le (a.take i)
    have htl : (a.take i).length = i := by rw [List.length_take]; omega
    have hnew : mk (a.take (i + 1)) = ins (a.getD i default) (mk (a.take i)) := by rw [take_getD a i hib, mk_snoc]
    generalize hm : mk (a.take i) = m at *
    repeat' (first
    | ((first | (show AL _ _ _ _ _ _ _ _; refine Ag Y ?_) | (show DL _ _ _ _ _ _ _; refine' Bt Y Y (fun K kk => ?_) ?_; try (show Go.Ts.T; rotate_left))); (first
      | (show AOp _ _ ⟨_, .move _, _, _, _, _⟩ _ _ _; refine Am hG Y Y ?_)
      | (show AOp _ _ ⟨_, .assign _, _, _, _, _⟩ _ _ _; refine A7 hG Y Y ?_)
      | (show AOp _ _ ⟨_, .call ⟨.builtin .len, _, _⟩, _, _, _, _⟩ _ _ _; first | refine Ax hG Y Y Y Y ?_ | refine Bd hG Y Y Y Y Y ?_)
      | (show AOp _ _ ⟨_, .binOp .add _ _ _ _, _, _, _, _⟩ _ _ _; first | refine Ay hG Y Y Y Y Y (by omega) ?_)
      | (show AOp _ _ ⟨_, .binOp _ _ _ _ _, _, _, _, _⟩ _ _ _; first | refine Av hG Y Y Y Y Y (by omega) ?_ | refine Au hG Y Y Y Y Y (by omega) ?_ | ((fail_if_success have := kk); refine Aw hG Y Y Y Y Y (fun h => ?_) (fun h => ?_)))
      | (show AOp _ _ ⟨_, .load _ _, _, _, _, _⟩ _ _ _; first | refine Bl hG Y Y Y ?_ | refine Az 0 hG Y Y Y Y ?_)
      | (show AOp _ _ ⟨_, .indexAddr _ _ _, _, _, _, _⟩ _ _ _; first | refine Bm hG Y Y Y Y Y Y Y (by omega) ?_ | refine Bk hG Y Y Y Y Y Y Y (by omega) ?_ | refine Bx hG Y Y ?_)
      | (show AOp _ _ ⟨_, .slice _ _ _ _ _, _, _, _, _⟩ _ _ _; first | refine Be hG Y Y Y Y Y Y Y (by omega) ?_ | refine Cg hG Y Y Y Y Y Y Y (by omega) ?_ | refine Bg hG Y Y Y Y Y Y Y (by omega) ?_ | refine r_sl_hi hG Y Y Y Y Y Y Y (by omega) ?_ | refine Cj hG Y Y Y Y Y Y Y Y Y Y ?_ | refine r_sl hG Y Y ?_)
      | (show AOp _ _ ⟨_, .pick _ _ _, _, _, _, _⟩ _ _ _; refine Bf hG Y Y Y ?_)
      | (show AOp _ _ ⟨_, .buildSlice _ _ _, _, _, _, _⟩ _ _ _; first | refine r_mk (sz := 1) hG Y Y Y Y Y Y Y ?_)
      | (show AOp _ _ ⟨_, .call ⟨.builtin .append, _, _⟩, _, _, _, _⟩ _ _ _; first | refine Bj (sz := 1) (xs := []) hG Y Y Y Y Y Y Y ⟨_, Y⟩ Y Y Y Y Y Y Y (by first | omega | (simp; omega)) (fun k => ?_) | refine Bq 0 hG Y Y Y Y Y Y Y ⟨_, Y⟩ Y Y Y Y Y (by first | omega | (simp only [List.length_append, List.length_cons, List.length_nil]; omega)) (fun k => ?_) | fail)
      | refine r_q hG Y Y Y ?_); try exact kk)
    | (show AL _ _ _ _ _ _ _ _; first | refine Bh Y Y Y ?_ | (refine As ?_; first | show AW _ _ _ _ _ _ | show ∃ x', _ < _ ∧ _)) | (show AW _ _ (.seq _ _) _ _ _; refine Ah ?_; intro Q1) | (show AW _ _ (.region _ _ false) _ _ _; refine Af ?_; intro O1) | (show AW _ _ (.cond _ _ _) _ _ _; first | refine Ak Y ?_ | refine Aj Y ?_) | (show AW _ _ (.skip) _ _ _; refine Al ?_; first | show AW _ _ _ _ _ _ | show ∃ x', _ < _ ∧ _) | (show AW _ _ (.block _ _) _ _ _; refine Ba ?_; intro Q1) | (show AW _ _ (.exit _) _ _ _; refine Bu ?_; first | show AW _ _ _ _ _ _ | show ∃ x', _ < _ ∧ _) | (show AW _ _ (.ret) _ _ _; refine Aq ?_; try dsimp only [Ap, Aa, Ao, Ac])
    | (show DL _ _ _ _ _ _ _; refine dl_d Y Y (fun K kt kf => Aw hG Y Y Y Y Y kt kf) (fun h => ?_) (fun h => ?_))
    | (show DL _ _ _ _ _ _ _; refine dl_s Y Y Y ?_) | (show DL _ _ _ _ _ _ _; refine B0 ?_; first | show AW _ _ _ _ _ _ | show ∃ x', _ < _ ∧ _) | (show AW _ _ (.region _ _ true) _ _ _; refine Bp mix (by kernel_rfl) ?_; intro O1) | fail)
    refine aw_loop (X := MkY m (a.getD i default)) (fun x => [(0, cT a), (4, .int .i64 i), (3, .sl 1 (.tok k) (m.map hT)), (5, .int .i64 x.n)]) (fun x => ⟨[], [k], off, none⟩) (fun x => m.length - x.n) ⟨0, Nat.zero_le _, fun j hj => by omega⟩ ?_ (.refl _) ?_
    · exact .cons rfl (.cons rfl (.cons rfl (.consW rfl (.int rfl) (.nil _))))
    rintro ⟨n, hn, hb⟩
    dsimp only
    have htn : (m.take n).length = n := by rw [List.length_take]; omega
    have hdn : (m.drop n).length = m.length - n := List.length_drop
    by_cases hnm : n < m.length
    · by_cases hlt : (((m.getD n default).toNat : Int) < ((a.getD i default).toNat : Int))
      · repeat' (first
    | ((first | (show AL _ _ _ _ _ _ _ _; refine Ag Y ?_) | (show DL _ _ _ _ _ _ _; refine' Bt Y Y (fun K kk => ?_) ?_; try (show Go.Ts.T; rotate_left))); (first
      | (show AOp _ _ ⟨_, .move _, _, _, _, _⟩ _ _ _; refine Am hG Y Y ?_)
      | (show AOp _ _ ⟨_, .assign _, _, _, _, _⟩ _ _ _; refine A7 hG Y Y ?_)
      | (show AOp _ _ ⟨_, .call ⟨.builtin .len, _, _⟩, _, _, _, _⟩ _ _ _; first | refine Ax hG Y Y Y Y ?_ | refine Bd hG Y Y Y Y Y ?_)
      | (show AOp _ _ ⟨_, .binOp .add _ _ _ _, _, _, _, _⟩ _ _ _; first | refine Ay hG Y Y Y Y Y (by omega) ?_)
      | (show AOp _ _ ⟨_, .binOp _ _ _ _ _, _, _, _, _⟩ _ _ _; first | refine Av hG Y Y Y Y Y (by omega) ?_ | refine Au hG Y Y Y Y Y (by omega) ?_ | ((fail_if_success have := kk); refine Aw hG Y Y Y Y Y (fun h => ?_) (fun h => ?_)))
      | (show AOp _ _ ⟨_, .load _ _, _, _, _, _⟩ _ _ _; first | refine Bl hG Y Y Y ?_ | refine Az 0 hG Y Y Y Y ?_)
      | (show AOp _ _ ⟨_, .indexAddr _ _ _, _, _, _, _⟩ _ _ _; first | refine Bm hG Y Y Y Y Y Y Y (by omega) ?_ | refine Bk hG Y Y Y Y Y Y Y (by omega) ?_ | refine Bx hG Y Y ?_)
      | (show AOp _ _ ⟨_, .slice _ _ _ _ _, _, _, _, _⟩ _ _ _; first | refine Be hG Y Y Y Y Y Y Y (by omega) ?_ | refine Cg hG Y Y Y Y Y Y Y (by omega) ?_ | refine Bg hG Y Y Y Y Y Y Y (by omega) ?_ | refine r_sl_hi hG Y Y Y Y Y Y Y (by omega) ?_ | refine Cj hG Y Y Y Y Y Y Y Y Y Y ?_ | refine r_sl hG Y Y ?_)
      | (show AOp _ _ ⟨_, .pick _ _ _, _, _, _, _⟩ _ _ _; refine Bf hG Y Y Y ?_)
      | (show AOp _ _ ⟨_, .buildSlice _ _ _, _, _, _, _⟩ _ _ _; first | refine r_mk (sz := 1) hG Y Y Y Y Y Y Y ?_)
      | (show AOp _ _ ⟨_, .call ⟨.builtin .append, _, _⟩, _, _, _, _⟩ _ _ _; first | refine Bj (sz := 1) (xs := []) hG Y Y Y Y Y Y Y ⟨_, Y⟩ Y Y Y Y Y Y Y (by first | omega | (simp; omega)) (fun k => ?_) | refine Bq 0 hG Y Y Y Y Y Y Y ⟨_, Y⟩ Y Y Y Y Y (by first | omega | (simp only [List.length_append, List.length_cons, List.length_nil]; omega)) (fun k => ?_) | fail)
      | refine r_q hG Y Y Y ?_); try exact kk)
    | (show AL _ _ _ _ _ _ _ _; first | refine Bh Y Y Y ?_ | (refine As ?_; first | show AW _ _ _ _ _ _ | show ∃ x', _ < _ ∧ _)) | (show AW _ _ (.seq _ _) _ _ _; refine Ah ?_; intro Q1) | (show AW _ _ (.region _ _ false) _ _ _; refine Af ?_; intro O1) | (show AW _ _ (.cond _ _ _) _ _ _; first | refine Ak Y ?_ | refine Aj Y ?_) | (show AW _ _ (.skip) _ _ _; refine Al ?_; first | show AW _ _ _ _ _ _ | show ∃ x', _ < _ ∧ _) | (show AW _ _ (.block _ _) _ _ _; refine Ba ?_; intro Q1) | (show AW _ _ (.exit _) _ _ _; refine Bu ?_; first | show AW _ _ _ _ _ _ | show ∃ x', _ < _ ∧ _) | (show AW _ _ (.ret) _ _ _; refine Aq ?_; try dsimp only [Ap, Aa, Ao, Ac])
    | (show DL _ _ _ _ _ _ _; refine dl_d Y Y (fun K kt kf => Aw hG Y Y Y Y Y kt kf) (fun h => ?_) (fun h => ?_))
    | (show DL _ _ _ _ _ _ _; refine dl_s Y Y Y ?_) | (show DL _ _ _ _ _ _ _; refine B0 ?_; first | show AW _ _ _ _ _ _ | show ∃ x', _ < _ ∧ _) | (show AW _ _ (.region _ _ true) _ _ _; refine Bp mix (by kernel_rfl) ?_; intro O1) | fail)
        refine ⟨⟨n + 1, by omega, fun j hj => ?_⟩, by dsimp only; omega, ?_, .refl _⟩
        · by_cases hj2 : j < n
          · exact hb j hj2
          · obtain rfl : j = n := by omega
            rw [UInt16.lt_iff_toNat_lt]; omega
        · exact .cons rfl (.cons rfl (.cons rfl (.consW rfl (.int (by simp)) (.nil _))))
      · have hi2 := ins_at m n hn hb (fun _ h => hlt (hT_lt.2 h))
        by_cases heq : (((m.getD n default).toNat : Int) = ((a.getD i default).toNat : Int))
        · rw [if_pos ⟨hnm, by rw [← UInt16.toNat_inj]; omega⟩] at hi2
          repeat' (first
    | ((first | (show AL _ _ _ _ _ _ _ _; refine Ag Y ?_) | (show DL _ _ _ _ _ _ _; refine' Bt Y Y (fun K kk => ?_) ?_; try (show Go.Ts.T; rotate_left))); (first
      | (show AOp _ _ ⟨_, .move _, _, _, _, _⟩ _ _ _; refine Am hG Y Y ?_)
      | (show AOp _ _ ⟨_, .assign _, _, _, _, _⟩ _ _ _; refine A7 hG Y Y ?_)
      | (show AOp _ _ ⟨_, .call ⟨.builtin .len, _, _⟩, _, _, _, _⟩ _ _ _; first | refine Ax hG Y Y Y Y ?_ | refine Bd hG Y Y Y Y Y ?_)
      | (show AOp _ _ ⟨_, .binOp .add _ _ _ _, _, _, _, _⟩ _ _ _; first | refine Ay hG Y Y Y Y Y (by omega) ?_)
      | (show AOp _ _ ⟨_, .binOp _ _ _ _ _, _, _, _, _⟩ _ _ _; first | refine Av hG Y Y Y Y Y (by omega) ?_ | refine Au hG Y Y Y Y Y (by omega) ?_ | ((fail_if_success have := kk); refine Aw hG Y Y Y Y Y (fun h => ?_) (fun h => ?_)))
      | (show AOp _ _ ⟨_, .load _ _, _, _, _, _⟩ _ _ _; first | refine Bl hG Y Y Y ?_ | refine Az 0 hG Y Y Y Y ?_)
      | (show AOp _ _ ⟨_, .indexAddr _ _ _, _, _, _, _⟩ _ _ _; first | refine Bm hG Y Y Y Y Y Y Y (by omega) ?_ | refine Bk hG Y Y Y Y Y Y Y (by omega) ?_ | refine Bx hG Y Y ?_)
      | (show AOp _ _ ⟨_, .slice _ _ _ _ _, _, _, _, _⟩ _ _ _; first | refine Be hG Y Y Y Y Y Y Y (by omega) ?_ | refine Cg hG Y Y Y Y Y Y Y (by omega) ?_ | refine Bg hG Y Y Y Y Y Y Y (by omega) ?_ | refine r_sl_hi hG Y Y Y Y Y Y Y (by omega) ?_ | refine Cj hG Y Y Y Y Y Y Y Y Y Y ?_ | refine r_sl hG Y Y ?_)
      | (show AOp _ _ ⟨_, .pick _ _ _, _, _, _, _⟩ _ _ _; refine Bf hG Y Y Y ?_)
      | (show AOp _ _ ⟨_, .buildSlice _ _ _, _, _, _, _⟩ _ _ _; first | refine r_mk (sz := 1) hG Y Y Y Y Y Y Y ?_)
      | (show AOp _ _ ⟨_, .call ⟨.builtin .append, _, _⟩, _, _, _, _⟩ _ _ _; first | refine Bj (sz := 1) (xs := []) hG Y Y Y Y Y Y Y ⟨_, Y⟩ Y Y Y Y Y Y Y (by first | omega | (simp; omega)) (fun k => ?_) | refine Bq 0 hG Y Y Y Y Y Y Y ⟨_, Y⟩ Y Y Y Y Y (by first | omega | (simp only [List.length_append, List.length_cons, List.length_nil]; omega)) (fun k => ?_) | fail)
      | refine r_q hG Y Y Y ?_); try exact kk)
    | (show AL _ _ _ _ _ _ _ _; first | refine Bh Y Y Y ?_ | (refine As ?_; first | show AW _ _ _ _ _ _ | show ∃ x', _ < _ ∧ _)) | (show AW _ _ (.seq _ _) _ _ _; refine Ah ?_; intro Q1) | (show AW _ _ (.region _ _ false) _ _ _; refine Af ?_; intro O1) | (show AW _ _ (.cond _ _ _) _ _ _; first | refine Ak Y ?_ | refine Aj Y ?_) | (show AW _ _ (.skip) _ _ _; refine Al ?_; first | show AW _ _ _ _ _ _ | show ∃ x', _ < _ ∧ _) | (show AW _ _ (.block _ _) _ _ _; refine Ba ?_; intro Q1) | (show AW _ _ (.exit _) _ _ _; refine Bu ?_; first | show AW _ _ _ _ _ _ | show ∃ x', _ < _ ∧ _) | (show AW _ _ (.ret) _ _ _; refine Aq ?_; try dsimp only [Ap, Aa, Ao, Ac])
    | (show DL _ _ _ _ _ _ _; refine dl_d Y Y (fun K kt kf => Aw hG Y Y Y Y Y kt kf) (fun h => ?_) (fun h => ?_))
    | (show DL _ _ _ _ _ _ _; refine dl_s Y Y Y ?_) | (show DL _ _ _ _ _ _ _; refine B0 ?_; first | show AW _ _ _ _ _ _ | show ∃ x', _ < _ ∧ _) | (show AW _ _ (.region _ _ true) _ _ _; refine Bp mix (by kernel_rfl) ?_; intro O1) | fail)
          refine ⟨⟨i + 1, _, by omega⟩, by dsimp only; omega, ?_, .refl _⟩
          exact .cons rfl (.consW rfl (.int (by simp)) (.consW rfl (.eq (by rw [hnew, hi2])) (.nil _)))
        · rw [if_neg (fun h => heq (by rw [h.2]))] at hi2
          repeat' (first
    | ((first | (show AL _ _ _ _ _ _ _ _; refine Ag Y ?_) | (show DL _ _ _ _ _ _ _; refine' Bt Y Y (fun K kk => ?_) ?_; try (show Go.Ts.T; rotate_left))); (first
      | (show AOp _ _ ⟨_, .move _, _, _, _, _⟩ _ _ _; refine Am hG Y Y ?_)
      | (show AOp _ _ ⟨_, .assign _, _, _, _, _⟩ _ _ _; refine A7 hG Y Y ?_)
      | (show AOp _ _ ⟨_, .call ⟨.builtin .len, _, _⟩, _, _, _, _⟩ _ _ _; first | refine Ax hG Y Y Y Y ?_ | refine Bd hG Y Y Y Y Y ?_)
      | (show AOp _ _ ⟨_, .binOp .add _ _ _ _, _, _, _, _⟩ _ _ _; first | refine Ay hG Y Y Y Y Y (by omega) ?_)
      | (show AOp _ _ ⟨_, .binOp _ _ _ _ _, _, _, _, _⟩ _ _ _; first | refine Av hG Y Y Y Y Y (by omega) ?_ | refine Au hG Y Y Y Y Y (by omega) ?_ | ((fail_if_success have := kk); refine Aw hG Y Y Y Y Y (fun h => ?_) (fun h => ?_)))
      | (show AOp _ _ ⟨_, .load _ _, _, _, _, _⟩ _ _ _; first | refine Bl hG Y Y Y ?_ | refine Az 0 hG Y Y Y Y ?_)
      | (show AOp _ _ ⟨_, .indexAddr _ _ _, _, _, _, _⟩ _ _ _; first | refine Bm hG Y Y Y Y Y Y Y (by omega) ?_ | refine Bk hG Y Y Y Y Y Y Y (by omega) ?_ | refine Bx hG Y Y ?_)
      | (show AOp _ _ ⟨_, .slice _ _ _ _ _, _, _, _, _⟩ _ _ _; first | refine Be hG Y Y Y Y Y Y Y (by omega) ?_ | refine Cg hG Y Y Y Y Y Y Y (by omega) ?_ | refine Bg hG Y Y Y Y Y Y Y (by omega) ?_ | refine r_sl_hi hG Y Y Y Y Y Y Y (by omega) ?_ | refine Cj hG Y Y Y Y Y Y Y Y Y Y ?_ | refine r_sl hG Y Y ?_)
      | (show AOp _ _ ⟨_, .pick _ _ _, _, _, _, _⟩ _ _ _; refine Bf hG Y Y Y ?_)
      | (show AOp _ _ ⟨_, .buildSlice _ _ _, _, _, _, _⟩ _ _ _; first | refine r_mk (sz := 1) hG Y Y Y Y Y Y Y ?_)
      | (show AOp _ _ ⟨_, .call ⟨.builtin .append, _, _⟩, _, _, _, _⟩ _ _ _; first | refine Bj (sz := 1) (xs := []) hG Y Y Y Y Y Y Y ⟨_, Y⟩ Y Y Y Y Y Y Y (by first | omega | (simp; omega)) (fun k => ?_) | refine Bq 0 hG Y Y Y Y Y Y Y ⟨_, Y⟩ Y Y Y Y Y (by first | omega | (simp only [List.length_append, List.length_cons, List.length_nil]; omega)) (fun k => ?_) | fail)
      | refine r_q hG Y Y Y ?_); try exact kk)
    | (show AL _ _ _ _ _ _ _ _; first | refine Bh Y Y Y ?_ | (refine As ?_; first | show AW _ _ _ _ _ _ | show ∃ x', _ < _ ∧ _)) | (show AW _ _ (.seq _ _) _ _ _; refine Ah ?_; intro Q1) | (show AW _ _ (.region _ _ false) _ _ _; refine Af ?_; intro O1) | (show AW _ _ (.cond _ _ _) _ _ _; first | refine Ak Y ?_ | refine Aj Y ?_) | (show AW _ _ (.skip) _ _ _; refine Al ?_; first | show AW _ _ _ _ _ _ | show ∃ x', _ < _ ∧ _) | (show AW _ _ (.block _ _) _ _ _; refine Ba ?_; intro Q1) | (show AW _ _ (.exit _) _ _ _; refine Bu ?_; first | show AW _ _ _ _ _ _ | show ∃ x', _ < _ ∧ _) | (show AW _ _ (.ret) _ _ _; refine Aq ?_; try dsimp only [Ap, Aa, Ao, Ac])
    | (show DL _ _ _ _ _ _ _; refine dl_d Y Y (fun K kt kf => Aw hG Y Y Y Y Y kt kf) (fun h => ?_) (fun h => ?_))
    | (show DL _ _ _ _ _ _ _; refine dl_s Y Y Y ?_) | (show DL _ _ _ _ _ _ _; refine B0 ?_; first | show AW _ _ _ _ _ _ | show ∃ x', _ < _ ∧ _) | (show AW _ _ (.region _ _ true) _ _ _; (fail_if_success show AW _ _ (.region 9 _ _) _ _ _); refine Bp mix (by kernel_rfl) ?_; intro O1) | fail)
          refine aw_drawE' (m := 15) [4, 10, 14] (fun σ => ∃ R, σ = ⟨[], R, off, none⟩) mix rfl (by repeat (first | exact Sp.zero _ | apply Sp.succ)) ?_; intro O1 F1 Z1 Q2
          repeat' (first
    | (refine' dq_cons Y Y Y (fun σ hσ K kk => ?_) ?_; (try (show Go.Ts.T; rotate_left)); (obtain ⟨R, rfl⟩ := hσ); (first
      | (show AOp _ _ ⟨_, .move _, _, _, _, _⟩ _ _ _; refine Am hG Y Y ?_)
      | (show AOp _ _ ⟨_, .assign _, _, _, _, _⟩ _ _ _; refine A7 hG Y Y ?_)
      | (show AOp _ _ ⟨_, .call ⟨.builtin .len, _, _⟩, _, _, _, _⟩ _ _ _; first | refine Ax hG Y Y Y Y ?_ | refine Bd hG Y Y Y Y Y ?_)
      | (show AOp _ _ ⟨_, .binOp .add _ _ _ _, _, _, _, _⟩ _ _ _; first | refine Ay hG Y Y Y Y Y (by omega) ?_)
      | (show AOp _ _ ⟨_, .binOp _ _ _ _ _, _, _, _, _⟩ _ _ _; first | refine Av hG Y Y Y Y Y (by omega) ?_ | refine Au hG Y Y Y Y Y (by omega) ?_)
      | (show AOp _ _ ⟨_, .load _ _, _, _, _, _⟩ _ _ _; first | refine Bl hG Y Y Y ?_ | refine Az 0 hG Y Y Y Y ?_)
      | (show AOp _ _ ⟨_, .indexAddr _ _ _, _, _, _, _⟩ _ _ _; first | refine Bm hG Y Y Y Y Y Y Y (by omega) ?_ | refine Bk hG Y Y Y Y Y Y Y (by omega) ?_ | refine Bx hG Y Y ?_)
      | (show AOp _ _ ⟨_, .slice _ _ _ _ _, _, _, _, _⟩ _ _ _; first | refine Be hG Y Y Y Y Y Y Y (by omega) ?_ | refine Cg hG Y Y Y Y Y Y Y (by omega) ?_ | refine Bg hG Y Y Y Y Y Y Y (by omega) ?_ | refine r_sl_hi hG Y Y Y Y Y Y Y (by omega) ?_ | refine Cj hG Y Y Y Y Y Y Y Y Y Y ?_ | refine r_sl hG Y Y ?_)
      | (show AOp _ _ ⟨_, .pick _ _ _, _, _, _, _⟩ _ _ _; refine Bf hG Y Y Y ?_)
      | (show AOp _ _ ⟨_, .buildSlice _ _ _, _, _, _, _⟩ _ _ _; first | refine r_mk (sz := 1) hG Y Y Y Y Y Y Y ?_)
      | (show AOp _ _ ⟨_, .call ⟨.builtin .append, _, _⟩, _, _, _, _⟩ _ _ _; first | refine Bq 0 (ys := [a.getD i default]) hG Y Y Y Y Y Y Y ⟨_, Y⟩ Y Y Y Y Y (by simp only [List.length_append, List.length_map, List.length_cons, List.length_nil]; omega) (fun k => ?_) | refine Bj (sz := 1) (xs := []) hG Y Y Y Y Y Y Y ⟨_, Y⟩ Y Y Y Y Y Y Y (by first | omega | (simp; omega)) (fun k => ?_) | refine Bq 0 hG Y Y Y Y Y Y Y ⟨_, Y⟩ Y Y Y Y Y (by first | omega | (simp only [List.length_append, List.length_cons, List.length_nil]; omega)) (fun k => ?_) | fail)
      | refine r_q hG Y Y Y ?_); exact kk)
    | refine dq_d Y Y Y (fun σ hσ K kt kf => by obtain ⟨R, rfl⟩ := hσ; exact Aw hG Y Y Y Y Y kt kf) (fun h => ?_) (fun h => ?_)
    | refine dq_d Y Y Y (fun σ hσ K kt kf => by obtain ⟨R, rfl⟩ := hσ; exact r_str hG Y Y Y Y kt kf) (fun h => ?_) (fun h => ?_)
    | refine dq_s Y Y Y Y ?_ | refine dq_e Y ?_ | (refine dq_nil ?_; show EL _ _ _ _ _ _ _ _ _) | refine el_s ⟨_, Y⟩ Y Y Y Y ?_
    | ((first | refine el_cons ⟨_, Y⟩ Y Y Y (fun K ke => ?_) | refine el_consN ⟨_, Y⟩ Y Y Y (fun K ke => ?_)); (first
      | (show AOp _ _ ⟨_, .move _, _, _, _, _⟩ _ _ _; refine Am hG Y Y ?_)
      | (show AOp _ _ ⟨_, .assign _, _, _, _, _⟩ _ _ _; refine A7 hG Y Y ?_)
      | (show AOp _ _ ⟨_, .call ⟨.builtin .len, _, _⟩, _, _, _, _⟩ _ _ _; first | refine Ax hG Y Y Y Y ?_ | refine Bd hG Y Y Y Y Y ?_)
      | (show AOp _ _ ⟨_, .binOp .add _ _ _ _, _, _, _, _⟩ _ _ _; first | refine Ay hG Y Y Y Y Y (by omega) ?_)
      | (show AOp _ _ ⟨_, .binOp _ _ _ _ _, _, _, _, _⟩ _ _ _; first | refine Av hG Y Y Y Y Y (by omega) ?_ | refine Au hG Y Y Y Y Y (by omega) ?_)
      | (show AOp _ _ ⟨_, .load _ _, _, _, _, _⟩ _ _ _; first | refine Bl hG Y Y Y ?_ | refine Az 0 hG Y Y Y Y ?_)
      | (show AOp _ _ ⟨_, .indexAddr _ _ _, _, _, _, _⟩ _ _ _; first | refine Bm hG Y Y Y Y Y Y Y (by omega) ?_ | refine Bk hG Y Y Y Y Y Y Y (by omega) ?_ | refine Bx hG Y Y ?_)
      | (show AOp _ _ ⟨_, .slice _ _ _ _ _, _, _, _, _⟩ _ _ _; first | refine Be hG Y Y Y Y Y Y Y (by omega) ?_ | refine Cg hG Y Y Y Y Y Y Y (by omega) ?_ | refine Bg hG Y Y Y Y Y Y Y (by omega) ?_ | refine r_sl_hi hG Y Y Y Y Y Y Y (by omega) ?_ | refine Cj hG Y Y Y Y Y Y Y Y Y Y ?_ | refine r_sl hG Y Y ?_)
      | (show AOp _ _ ⟨_, .pick _ _ _, _, _, _, _⟩ _ _ _; refine Bf hG Y Y Y ?_)
      | (show AOp _ _ ⟨_, .buildSlice _ _ _, _, _, _, _⟩ _ _ _; first | refine r_mk (sz := 1) hG Y Y Y Y Y Y Y ?_)
      | (show AOp _ _ ⟨_, .call ⟨.builtin .append, _, _⟩, _, _, _, _⟩ _ _ _; first | refine Bq 0 (ys := [a.getD i default]) hG Y Y Y Y Y Y Y ⟨_, Y⟩ Y Y Y Y Y (by simp only [List.length_append, List.length_map, List.length_cons, List.length_nil]; omega) (fun k => ?_) | refine Bj (sz := 1) (xs := []) hG Y Y Y Y Y Y Y ⟨_, Y⟩ Y Y Y Y Y Y Y (by first | omega | (simp; omega)) (fun k => ?_) | refine Bq 0 hG Y Y Y Y Y Y Y ⟨_, Y⟩ Y Y Y Y Y (by first | omega | (simp only [List.length_append, List.length_cons, List.length_nil]; omega)) (fun k => ?_) | fail)
      | refine r_q hG Y Y Y ?_); refine ke _ _ ?_)
    | (refine el_nil ⟨_, Y⟩ ?_; show AL _ _ _ _ _ _ _ _) | fail)
          repeat' (first
    | ((first | (show AL _ _ _ _ _ _ _ _; refine Ag Y ?_) | (show DL _ _ _ _ _ _ _; refine' Bt Y Y (fun K kk => ?_) ?_; try (show Go.Ts.T; rotate_left))); (first
      | (show AOp _ _ ⟨_, .move _, _, _, _, _⟩ _ _ _; refine Am hG Y Y ?_)
      | (show AOp _ _ ⟨_, .assign _, _, _, _, _⟩ _ _ _; refine A7 hG Y Y ?_)
      | (show AOp _ _ ⟨_, .call ⟨.builtin .len, _, _⟩, _, _, _, _⟩ _ _ _; first | refine Ax hG Y Y Y Y ?_ | refine Bd hG Y Y Y Y Y ?_)
      | (show AOp _ _ ⟨_, .binOp .add _ _ _ _, _, _, _, _⟩ _ _ _; first | refine Ay hG Y Y Y Y Y (by omega) ?_)
      | (show AOp _ _ ⟨_, .binOp _ _ _ _ _, _, _, _, _⟩ _ _ _; first | refine Av hG Y Y Y Y Y (by omega) ?_ | refine Au hG Y Y Y Y Y (by omega) ?_ | ((fail_if_success have := kk); refine Aw hG Y Y Y Y Y (fun h => ?_) (fun h => ?_)))
      | (show AOp _ _ ⟨_, .load _ _, _, _, _, _⟩ _ _ _; first | refine Bl hG Y Y Y ?_ | refine Az 0 hG Y Y Y Y ?_)
      | (show AOp _ _ ⟨_, .indexAddr _ _ _, _, _, _, _⟩ _ _ _; first | refine Bm hG Y Y Y Y Y Y Y (by omega) ?_ | refine Bk hG Y Y Y Y Y Y Y (by omega) ?_ | refine Bx hG Y Y ?_)
      | (show AOp _ _ ⟨_, .slice _ _ _ _ _, _, _, _, _⟩ _ _ _; first | refine Be hG Y Y Y Y Y Y Y (by omega) ?_ | refine Cg hG Y Y Y Y Y Y Y (by omega) ?_ | refine Bg hG Y Y Y Y Y Y Y (by omega) ?_ | refine r_sl_hi hG Y Y Y Y Y Y Y (by omega) ?_ | refine Cj hG Y Y Y Y Y Y Y Y Y Y ?_ | refine r_sl hG Y Y ?_)
      | (show AOp _ _ ⟨_, .pick _ _ _, _, _, _, _⟩ _ _ _; refine Bf hG Y Y Y ?_)
      | (show AOp _ _ ⟨_, .buildSlice _ _ _, _, _, _, _⟩ _ _ _; first | refine r_mk (sz := 1) hG Y Y Y Y Y Y Y ?_)
      | (show AOp _ _ ⟨_, .call ⟨.builtin .append, _, _⟩, _, _, _, _⟩ _ _ _; first | refine Bj (sz := 1) (xs := []) hG Y Y Y Y Y Y Y ⟨_, Y⟩ Y Y Y Y Y Y Y (by first | omega | (simp; omega)) (fun k => ?_) | refine Bq 0 hG Y Y Y Y Y Y Y ⟨_, Y⟩ Y Y Y Y Y (by first | omega | (simp only [List.length_append, List.length_cons, List.length_nil]; omega)) (fun k => ?_) | fail)
      | refine r_q hG Y Y Y ?_); try exact kk)
    | (show AL _ _ _ _ _ _ _ _; first | refine Bh Y Y Y ?_ | (refine As ?_; first | show AW _ _ _ _ _ _ | show ∃ x', _ < _ ∧ _)) | (show AW _ _ (.seq _ _) _ _ _; refine Ah ?_; intro Q1) | (show AW _ _ (.region _ _ false) _ _ _; refine Af ?_; intro O1) | (show AW _ _ (.cond _ _ _) _ _ _; first | refine Ak Y ?_ | refine Aj Y ?_) | (show AW _ _ (.skip) _ _ _; refine Al ?_; first | show AW _ _ _ _ _ _ | show ∃ x', _ < _ ∧ _) | (show AW _ _ (.block _ _) _ _ _; refine Ba ?_; intro Q1) | (show AW _ _ (.exit _) _ _ _; refine Bu ?_; first | show AW _ _ _ _ _ _ | show ∃ x', _ < _ ∧ _) | (show AW _ _ (.ret) _ _ _; refine Aq ?_; try dsimp only [Ap, Aa, Ao, Ac])
    | (show DL _ _ _ _ _ _ _; refine dl_d Y Y (fun K kt kf => Aw hG Y Y Y Y Y kt kf) (fun h => ?_) (fun h => ?_))
    | (show DL _ _ _ _ _ _ _; refine dl_s Y Y Y ?_) | (show DL _ _ _ _ _ _ _; refine B0 ?_; first | show AW _ _ _ _ _ _ | show ∃ x', _ < _ ∧ _) | (show AW _ _ (.region _ _ true) _ _ _; refine Bp mix (by kernel_rfl) ?_; intro O1) | fail)
          refine ⟨⟨i + 1, _, by omega⟩, by dsimp only; omega, ?_, drop_tok⟩
          exact .cons rfl (.consW rfl (.int (by simp)) (.consW rfl (.eq (by rw [hnew, hi2]; simp)) (.nil _)))
    · have hi2 := ins_at m n hn hb (fun h => absurd h hnm)
      rw [if_neg (fun h => hnm h.1)] at hi2
      repeat' (first
    | ((first | (show AL _ _ _ _ _ _ _ _; refine Ag Y ?_) | (show DL _ _ _ _ _ _ _; refine' Bt Y Y (fun K kk => ?_) ?_; try (show Go.Ts.T; rotate_left))); (first
      | (show AOp _ _ ⟨_, .move _, _, _, _, _⟩ _ _ _; refine Am hG Y Y ?_)
      | (show AOp _ _ ⟨_, .assign _, _, _, _, _⟩ _ _ _; refine A7 hG Y Y ?_)
      | (show AOp _ _ ⟨_, .call ⟨.builtin .len, _, _⟩, _, _, _, _⟩ _ _ _; first | refine Ax hG Y Y Y Y ?_ | refine Bd hG Y Y Y Y Y ?_)
      | (show AOp _ _ ⟨_, .binOp .add _ _ _ _, _, _, _, _⟩ _ _ _; first | refine Ay hG Y Y Y Y Y (by omega) ?_)
      | (show AOp _ _ ⟨_, .binOp _ _ _ _ _, _, _, _, _⟩ _ _ _; first | refine Av hG Y Y Y Y Y (by omega) ?_ | refine Au hG Y Y Y Y Y (by omega) ?_ | ((fail_if_success have := kk); refine Aw hG Y Y Y Y Y (fun h => ?_) (fun h => ?_)))
      | (show AOp _ _ ⟨_, .load _ _, _, _, _, _⟩ _ _ _; first | refine Bl hG Y Y Y ?_ | refine Az 0 hG Y Y Y Y ?_)
      | (show AOp _ _ ⟨_, .indexAddr _ _ _, _, _, _, _⟩ _ _ _; first | refine Bm hG Y Y Y Y Y Y Y (by omega) ?_ | refine Bk hG Y Y Y Y Y Y Y (by omega) ?_ | refine Bx hG Y Y ?_)
      | (show AOp _ _ ⟨_, .slice _ _ _ _ _, _, _, _, _⟩ _ _ _; first | refine Be hG Y Y Y Y Y Y Y (by omega) ?_ | refine Cg hG Y Y Y Y Y Y Y (by omega) ?_ | refine Bg hG Y Y Y Y Y Y Y (by omega) ?_ | refine r_sl_hi hG Y Y Y Y Y Y Y (by omega) ?_ | refine Cj hG Y Y Y Y Y Y Y Y Y Y ?_ | refine r_sl hG Y Y ?_)
      | (show AOp _ _ ⟨_, .pick _ _ _, _, _, _, _⟩ _ _ _; refine Bf hG Y Y Y ?_)
      | (show AOp _ _ ⟨_, .buildSlice _ _ _, _, _, _, _⟩ _ _ _; first | refine r_mk (sz := 1) hG Y Y Y Y Y Y Y ?_)
      | (show AOp _ _ ⟨_, .call ⟨.builtin .append, _, _⟩, _, _, _, _⟩ _ _ _; first | refine Bj (sz := 1) (xs := []) hG Y Y Y Y Y Y Y ⟨_, Y⟩ Y Y Y Y Y Y Y (by first | omega | (simp; omega)) (fun k => ?_) | refine Bq 0 hG Y Y Y Y Y Y Y ⟨_, Y⟩ Y Y Y Y Y (by first | omega | (simp only [List.length_append, List.length_cons, List.length_nil]; omega)) (fun k => ?_) | fail)
      | refine r_q hG Y Y Y ?_); try exact kk)
    | (show AL _ _ _ _ _ _ _ _; first | refine Bh Y Y Y ?_ | (refine As ?_; first | show AW _ _ _ _ _ _ | show ∃ x', _ < _ ∧ _)) | (show AW _ _ (.seq _ _) _ _ _; refine Ah ?_; intro Q1) | (show AW _ _ (.region _ _ false) _ _ _; refine Af ?_; intro O1) | (show AW _ _ (.cond _ _ _) _ _ _; first | refine Ak Y ?_ | refine Aj Y ?_) | (show AW _ _ (.skip) _ _ _; refine Al ?_; first | show AW _ _ _ _ _ _ | show ∃ x', _ < _ ∧ _) | (show AW _ _ (.block _ _) _ _ _; refine Ba ?_; intro Q1) | (show AW _ _ (.exit _) _ _ _; refine Bu ?_; first | show AW _ _ _ _ _ _ | show ∃ x', _ < _ ∧ _) | (show AW _ _ (.ret) _ _ _; refine Aq ?_; try dsimp only [Ap, Aa, Ao, Ac])
    | (show DL _ _ _ _ _ _ _; refine dl_d Y Y (fun K kt kf => Aw hG Y Y Y Y Y kt kf) (fun h => ?_) (fun h => ?_))
    | (show DL _ _ _ _ _ _ _; refine dl_s Y Y Y ?_) | (show DL _ _ _ _ _ _ _; refine B0 ?_; first | show AW _ _ _ _ _ _ | show ∃ x', _ < _ ∧ _) | (show AW _ _ (.region _ _ true) _ _ _; (fail_if_success show AW _ _ (.region 9 _ _) _ _ _); refine Bp mix (by kernel_rfl) ?_; intro O1) | fail)
      refine aw_drawE' (m := 15) [4, 10, 14] (fun σ => ∃ R, σ = ⟨[], R, off, none⟩) mix rfl (by repeat (first | exact Sp.zero _ | apply Sp.succ)) ?_; intro O1 F1 Z1 Q2
      repeat' (first
    | (refine' dq_cons Y Y Y (fun σ hσ K kk => ?_) ?_; (try (show Go.Ts.T; rotate_left)); (obtain ⟨R, rfl⟩ := hσ); (first
      | (show AOp _ _ ⟨_, .move _, _, _, _, _⟩ _ _ _; refine Am hG Y Y ?_)
      | (show AOp _ _ ⟨_, .assign _, _, _, _, _⟩ _ _ _; refine A7 hG Y Y ?_)
      | (show AOp _ _ ⟨_, .call ⟨.builtin .len, _, _⟩, _, _, _, _⟩ _ _ _; first | refine Ax hG Y Y Y Y ?_ | refine Bd hG Y Y Y Y Y ?_)
      | (show AOp _ _ ⟨_, .binOp .add _ _ _ _, _, _, _, _⟩ _ _ _; first | refine Ay hG Y Y Y Y Y (by omega) ?_)
      | (show AOp _ _ ⟨_, .binOp _ _ _ _ _, _, _, _, _⟩ _ _ _; first | refine Av hG Y Y Y Y Y (by omega) ?_ | refine Au hG Y Y Y Y Y (by omega) ?_)
      | (show AOp _ _ ⟨_, .load _ _, _, _, _, _⟩ _ _ _; first | refine Bl hG Y Y Y ?_ | refine Az 0 hG Y Y Y Y ?_)
      | (show AOp _ _ ⟨_, .indexAddr _ _ _, _, _, _, _⟩ _ _ _; first | refine Bm hG Y Y Y Y Y Y Y (by omega) ?_ | refine Bk hG Y Y Y Y Y Y Y (by omega) ?_ | refine Bx hG Y Y ?_)
      | (show AOp _ _ ⟨_, .slice _ _ _ _ _, _, _, _, _⟩ _ _ _; first | refine Be hG Y Y Y Y Y Y Y (by omega) ?_ | refine Cg hG Y Y Y Y Y Y Y (by omega) ?_ | refine Bg hG Y Y Y Y Y Y Y (by omega) ?_ | refine r_sl_hi hG Y Y Y Y Y Y Y (by omega) ?_ | refine Cj hG Y Y Y Y Y Y Y Y Y Y ?_ | refine r_sl hG Y Y ?_)
      | (show AOp _ _ ⟨_, .pick _ _ _, _, _, _, _⟩ _ _ _; refine Bf hG Y Y Y ?_)
      | (show AOp _ _ ⟨_, .buildSlice _ _ _, _, _, _, _⟩ _ _ _; first | refine r_mk (sz := 1) hG Y Y Y Y Y Y Y ?_)
      | (show AOp _ _ ⟨_, .call ⟨.builtin .append, _, _⟩, _, _, _, _⟩ _ _ _; first | refine Bq 0 (ys := [a.getD i default]) hG Y Y Y Y Y Y Y ⟨_, Y⟩ Y Y Y Y Y (by simp only [List.length_append, List.length_map, List.length_cons, List.length_nil]; omega) (fun k => ?_) | refine Bj (sz := 1) (xs := []) hG Y Y Y Y Y Y Y ⟨_, Y⟩ Y Y Y Y Y Y Y (by first | omega | (simp; omega)) (fun k => ?_) | refine Bq 0 hG Y Y Y Y Y Y Y ⟨_, Y⟩ Y Y Y Y Y (by first | omega | (simp only [List.length_append, List.length_cons, List.length_nil]; omega)) (fun k => ?_) | fail)
      | refine r_q hG Y Y Y ?_); exact kk)
    | refine dq_d Y Y Y (fun σ hσ K kt kf => by obtain ⟨R, rfl⟩ := hσ; exact Aw hG Y Y Y Y Y kt kf) (fun h => ?_) (fun h => ?_)
    | refine dq_d Y Y Y (fun σ hσ K kt kf => by obtain ⟨R, rfl⟩ := hσ; exact r_str hG Y Y Y Y kt kf) (fun h => ?_) (fun h => ?_)
    | refine dq_s Y Y Y Y ?_ | refine dq_e Y ?_ | (refine dq_nil ?_; show EL _ _ _ _ _ _ _ _ _) | refine el_s ⟨_, Y⟩ Y Y Y Y ?_
    | ((first | refine el_cons ⟨_, Y⟩ Y Y Y (fun K ke => ?_) | refine el_consN ⟨_, Y⟩ Y Y Y (fun K ke => ?_)); (first
      | (show AOp _ _ ⟨_, .move _, _, _, _, _⟩ _ _ _; refine Am hG Y Y ?_)
      | (show AOp _ _ ⟨_, .assign _, _, _, _, _⟩ _ _ _; refine A7 hG Y Y ?_)
      | (show AOp _ _ ⟨_, .call ⟨.builtin .len, _, _⟩, _, _, _, _⟩ _ _ _; first | refine Ax hG Y Y Y Y ?_ | refine Bd hG Y Y Y Y Y ?_)
      | (show AOp _ _ ⟨_, .binOp .add _ _ _ _, _, _, _, _⟩ _ _ _; first | refine Ay hG Y Y Y Y Y (by omega) ?_)
      | (show AOp _ _ ⟨_, .binOp _ _ _ _ _, _, _, _, _⟩ _ _ _; first | refine Av hG Y Y Y Y Y (by omega) ?_ | refine Au hG Y Y Y Y Y (by omega) ?_)
      | (show AOp _ _ ⟨_, .load _ _, _, _, _, _⟩ _ _ _; first | refine Bl hG Y Y Y ?_ | refine Az 0 hG Y Y Y Y ?_)
      | (show AOp _ _ ⟨_, .indexAddr _ _ _, _, _, _, _⟩ _ _ _; first | refine Bm hG Y Y Y Y Y Y Y (by omega) ?_ | refine Bk hG Y Y Y Y Y Y Y (by omega) ?_ | refine Bx hG Y Y ?_)
      | (show AOp _ _ ⟨_, .slice _ _ _ _ _, _, _, _, _⟩ _ _ _; first | refine Be hG Y Y Y Y Y Y Y (by omega) ?_ | refine Cg hG Y Y Y Y Y Y Y (by omega) ?_ | refine Bg hG Y Y Y Y Y Y Y (by omega) ?_ | refine r_sl_hi hG Y Y Y Y Y Y Y (by omega) ?_ | refine Cj hG Y Y Y Y Y Y Y Y Y Y ?_ | refine r_sl hG Y Y ?_)
      | (show AOp _ _ ⟨_, .pick _ _ _, _, _, _, _⟩ _ _ _; refine Bf hG Y Y Y ?_)
      | (show AOp _ _ ⟨_, .buildSlice _ _ _, _, _, _, _⟩ _ _ _; first | refine r_mk (sz := 1) hG Y Y Y Y Y Y Y ?_)
      | (show AOp _ _ ⟨_, .call ⟨.builtin .append, _, _⟩, _, _, _, _⟩ _ _ _; first | refine Bq 0 (ys := [a.getD i default]) hG Y Y Y Y Y Y Y ⟨_, Y⟩ Y Y Y Y Y (by simp only [List.length_append, List.length_map, List.length_cons, List.length_nil]; omega) (fun k => ?_) | refine Bj (sz := 1) (xs := []) hG Y Y Y Y Y Y Y ⟨_, Y⟩ Y Y Y Y Y Y Y (by first | omega | (simp; omega)) (fun k => ?_) | refine Bq 0 hG Y Y Y Y Y Y Y ⟨_, Y⟩ Y Y Y Y Y (by first | omega | (simp only [List.length_append, List.length_cons, List.length_nil]; omega)) (fun k => ?_) | fail)
      | refine r_q hG Y Y Y ?_); refine ke _ _ ?_)
    | (refine el_nil ⟨_, Y⟩ ?_; show AL _ _ _ _ _ _ _ _) | fail)
      repeat' (first
    | ((first | (show AL _ _ _ _ _ _ _ _; refine Ag Y ?_) | (show DL _ _ _ _ _ _ _; refine' Bt Y Y (fun K kk => ?_) ?_; try (show Go.Ts.T; rotate_left))); (first
      | (show AOp _ _ ⟨_, .move _, _, _, _, _⟩ _ _ _; refine Am hG Y Y ?_)
      | (show AOp _ _ ⟨_, .assign _, _, _, _, _⟩ _ _ _; refine A7 hG Y Y ?_)
      | (show AOp _ _ ⟨_, .call ⟨.builtin .len, _, _⟩, _, _, _, _⟩ _ _ _; first | refine Ax hG Y Y Y Y ?_ | refine Bd hG Y Y Y Y Y ?_)
      | (show AOp _ _ ⟨_, .binOp .add _ _ _ _, _, _, _, _⟩ _ _ _; first | refine Ay hG Y Y Y Y Y (by omega) ?_)
      | (show AOp _ _ ⟨_, .binOp _ _ _ _ _, _, _, _, _⟩ _ _ _; first | refine Av hG Y Y Y Y Y (by omega) ?_ | refine Au hG Y Y Y Y Y (by omega) ?_ | ((fail_if_success have := kk); refine Aw hG Y Y Y Y Y (fun h => ?_) (fun h => ?_)))
      | (show AOp _ _ ⟨_, .load _ _, _, _, _, _⟩ _ _ _; first | refine Bl hG Y Y Y ?_ | refine Az 0 hG Y Y Y Y ?_)
      | (show AOp _ _ ⟨_, .indexAddr _ _ _, _, _, _, _⟩ _ _ _; first | refine Bm hG Y Y Y Y Y Y Y (by omega) ?_ | refine Bk hG Y Y Y Y Y Y Y (by omega) ?_ | refine Bx hG Y Y ?_)
      | (show AOp _ _ ⟨_, .slice _ _ _ _ _, _, _, _, _⟩ _ _ _; first | refine Be hG Y Y Y Y Y Y Y (by omega) ?_ | refine Cg hG Y Y Y Y Y Y Y (by omega) ?_ | refine Bg hG Y Y Y Y Y Y Y (by omega) ?_ | refine r_sl_hi hG Y Y Y Y Y Y Y (by omega) ?_ | refine Cj hG Y Y Y Y Y Y Y Y Y Y ?_ | refine r_sl hG Y Y ?_)
      | (show AOp _ _ ⟨_, .pick _ _ _, _, _, _, _⟩ _ _ _; refine Bf hG Y Y Y ?_)
      | (show AOp _ _ ⟨_, .buildSlice _ _ _, _, _, _, _⟩ _ _ _; first | refine r_mk (sz := 1) hG Y Y Y Y Y Y Y ?_)
      | (show AOp _ _ ⟨_, .call ⟨.builtin .append, _, _⟩, _, _, _, _⟩ _ _ _; first | refine Bj (sz := 1) (xs := []) hG Y Y Y Y Y Y Y ⟨_, Y⟩ Y Y Y Y Y Y Y (by first | omega | (simp; omega)) (fun k => ?_) | refine Bq 0 hG Y Y Y Y Y Y Y ⟨_, Y⟩ Y Y Y Y Y (by first | omega | (simp only [List.length_append, List.length_cons, List.length_nil]; omega)) (fun k => ?_) | fail)
      | refine r_q hG Y Y Y ?_); try exact kk)
    | (show AL _ _ _ _ _ _ _ _; first | refine Bh Y Y Y ?_ | (refine As ?_; first | show AW _ _ _ _ _ _ | show ∃ x', _ < _ ∧ _)) | (show AW _ _ (.seq _ _) _ _ _; refine Ah ?_; intro Q1) | (show AW _ _ (.region _ _ false) _ _ _; refine Af ?_; intro O1) | (show AW _ _ (.cond _ _ _) _ _ _; first | refine Ak Y ?_ | refine Aj Y ?_) | (show AW _ _ (.skip) _ _ _; refine Al ?_; first | show AW _ _ _ _ _ _ | show ∃ x', _ < _ ∧ _) | (show AW _ _ (.block _ _) _ _ _; refine Ba ?_; intro Q1) | (show AW _ _ (.exit _) _ _ _; refine Bu ?_; first | show AW _ _ _ _ _ _ | show ∃ x', _ < _ ∧ _) | (show AW _ _ (.ret) _ _ _; refine Aq ?_; try dsimp only [Ap, Aa, Ao, Ac])
    | (show DL _ _ _ _ _ _ _; refine dl_d Y Y (fun K kt kf => Aw hG Y Y Y Y Y kt kf) (fun h => ?_) (fun h => ?_))
    | (show DL _ _ _ _ _ _ _; refine dl_s Y Y Y ?_) | (show DL _ _ _ _ _ _ _; refine B0 ?_; first | show AW _ _ _ _ _ _ | show ∃ x', _ < _ ∧ _) | (show AW _ _ (.region _ _ true) _ _ _; refine Bp mix (by kernel_rfl) ?_; intro O1) | fail)
      refine ⟨⟨i + 1, _, by omega⟩, by dsimp only; omega, ?_, drop_tok⟩
      exact .cons rfl (.consW rfl (.int (by simp)) (.consW rfl (.eq (by rw [hnew, hi2]; simp)) (.nil _)))
  · obtain rfl : i = a.length := by omega
    repeat' (first
    | ((first | (show AL _ _ _ _ _ _ _ _; refine Ag Y ?_) | (show DL _ _ _ _ _ _ _; refine' Bt Y Y (fun K kk => ?_) ?_; try (show Go.Ts.T; rotate_left))); (first
      | (show AOp _ _ ⟨_, .move _, _, _, _, _⟩ _ _ _; refine Am hG Y Y ?_)
      | (show AOp _ _ ⟨_, .assign _, _, _, _, _⟩ _ _ _; refine A7 hG Y Y ?_)
      | (show AOp _ _ ⟨_, .call ⟨.builtin .len, _, _⟩, _, _, _, _⟩ _ _ _; first | refine Ax hG Y Y Y Y ?_ | refine Bd hG Y Y Y Y Y ?_)
      | (show AOp _ _ ⟨_, .binOp .add _ _ _ _, _, _, _, _⟩ _ _ _; first | refine Ay hG Y Y Y Y Y (by omega) ?_)
      | (show AOp _ _ ⟨_, .binOp _ _ _ _ _, _, _, _, _⟩ _ _ _; first | refine Av hG Y Y Y Y Y (by omega) ?_ | refine Au hG Y Y Y Y Y (by omega) ?_ | ((fail_if_success have := kk); refine Aw hG Y Y Y Y Y (fun h => ?_) (fun h => ?_)))
      | (show AOp _ _ ⟨_, .load _ _, _, _, _, _⟩ _ _ _; first | refine Bl hG Y Y Y ?_ | refine Az 0 hG Y Y Y Y ?_)
      | (show AOp _ _ ⟨_, .indexAddr _ _ _, _, _, _, _⟩ _ _ _; first | refine Bm hG Y Y Y Y Y Y Y (by omega) ?_ | refine Bk hG Y Y Y Y Y Y Y (by omega) ?_ | refine Bx hG Y Y ?_)
      | (show AOp _ _ ⟨_, .slice _ _ _ _ _, _, _, _, _⟩ _ _ _; first | refine Be hG Y Y Y Y Y Y Y (by omega) ?_ | refine Cg hG Y Y Y Y Y Y Y (by omega) ?_ | refine Bg hG Y Y Y Y Y Y Y (by omega) ?_ | refine r_sl_hi hG Y Y Y Y Y Y Y (by omega) ?_ | refine Cj hG Y Y Y Y Y Y Y Y Y Y ?_ | refine r_sl hG Y Y ?_)
      | (show AOp _ _ ⟨_, .pick _ _ _, _, _, _, _⟩ _ _ _; refine Bf hG Y Y Y ?_)
      | (show AOp _ _ ⟨_, .buildSlice _ _ _, _, _, _, _⟩ _ _ _; first | refine r_mk (sz := 1) hG Y Y Y Y Y Y Y ?_)
      | (show AOp _ _ ⟨_, .call ⟨.builtin .append, _, _⟩, _, _, _, _⟩ _ _ _; first | refine Bj (sz := 1) (xs := []) hG Y Y Y Y Y Y Y ⟨_, Y⟩ Y Y Y Y Y Y Y (by first | omega | (simp; omega)) (fun k => ?_) | refine Bq 0 hG Y Y Y Y Y Y Y ⟨_, Y⟩ Y Y Y Y Y (by first | omega | (simp only [List.length_append, List.length_cons, List.length_nil]; omega)) (fun k => ?_) | fail)
      | refine r_q hG Y Y Y ?_); try exact kk)
    | (show AL _ _ _ _ _ _ _ _; first | refine Bh Y Y Y ?_ | (refine As ?_; first | show AW _ _ _ _ _ _ | show ∃ x', _ < _ ∧ _)) | (show AW _ _ (.seq _ _) _ _ _; refine Ah ?_; intro Q1) | (show AW _ _ (.region _ _ false) _ _ _; refine Af ?_; intro O1) | (show AW _ _ (.cond _ _ _) _ _ _; first | refine Ak Y ?_ | refine Aj Y ?_) | (show AW _ _ (.skip) _ _ _; refine Al ?_; first | show AW _ _ _ _ _ _ | show ∃ x', _ < _ ∧ _) | (show AW _ _ (.block _ _) _ _ _; refine Ba ?_; intro Q1) | (show AW _ _ (.exit _) _ _ _; refine Bu ?_; first | show AW _ _ _ _ _ _ | show ∃ x', _ < _ ∧ _) | (show AW _ _ (.ret) _ _ _; refine Aq ?_; try dsimp only [Ap, Aa, Ao, Ac])
    | (show DL _ _ _ _ _ _ _; refine dl_d Y Y (fun K kt kf => Aw hG Y Y Y Y Y kt kf) (fun h => ?_) (fun h => ?_))
    | (show DL _ _ _ _ _ _ _; refine dl_s Y Y Y ?_) | (show DL _ _ _ _ _ _ _; refine B0 ?_; first | show AW _ _ _ _ _ _ | show ∃ x', _ < _ ∧ _) | (show AW _ _ (.region _ _ true) _ _ _; refine Bp mix (by kernel_rfl) ?_; intro O1) | fail)
    exact ret_owns 0 (Ar rfl A9) rfl (by rw [List.take_length]) rfl
theorem ref_Or {x y : T} {a b : List UInt16} (hx : catsT x = some a) (hy : catsT y = some b) (hl : a.length + b.length ≤ 4294967000) : Owns Try.prog 64 [x, y] 1 ((mk (a ++ b)).map hT) := by
  refine Owns.weak (us := [cT a, cT b]) ?_ (wk2 (catsT_wk hx) (catsT_wk hy))
  intro off
  refine Bs (N := 11) (rs := [.tmp 4]) hG Try.func64 rfl rfl rfl rfl rfl ?_
  repeat' (first
    | ((show AL _ _ _ _ _ _ _ _; refine Ag Y ?_); (first
      | (show AOp _ _ ⟨_, .move _, _, _, _, _⟩ _ _ _; refine Am hG Y Y ?_)
      | (show AOp _ _ ⟨_, .assign _, _, _, _, _⟩ _ _ _; refine A7 hG Y Y ?_)
      | (show AOp _ _ ⟨_, .buildSlice _ _ _, _, _, _, _⟩ _ _ _; first | refine r_mk (sz := 1) hG Y Y Y Y Y Y Y ?_)
      | (show AOp _ _ ⟨_, .call ⟨.builtin .append, _, _⟩, _, _, _, _⟩ _ _ _; first | refine Bj (sz := 1) (xs := []) hG Y Y Y Y Y Y Y ⟨_, Y⟩ Y Y Y Y Y Y Y (by first | omega | (simp; omega)) (fun k => ?_) | refine Bq 0 hG Y Y Y Y Y Y Y ⟨_, Y⟩ Y Y Y Y Y (by first | omega | (simp only [List.length_append, List.length_cons, List.length_nil]; omega)) (fun k => ?_) | fail)
      | refine r_q hG Y Y Y ?_))
    | (show AL _ _ _ _ _ _ _ _; first | refine Bh Y Y Y ?_ | (refine As ?_; first | show AW _ _ _ _ _ _ | show ∃ x', _ < _ ∧ _)) | (show AW _ _ (.seq _ _) _ _ _; refine Ah ?_; intro Q1) | (show AW _ _ (.region _ _ false) _ _ _; refine Af ?_; intro O1) | (show AW _ _ (.ret) _ _ _; refine Aq ?_; try dsimp only [Ap, Aa, Ao, Ac]) | fail)
  have hc := ref_Make (x := .sl 1 (.tok k) (([] ++ a ++ b).map hT)) (Ae _ _) (by simp; omega)
  repeat' (first
    | ((show AL _ _ _ _ _ _ _ _; refine Ag Y ?_); (first
      | (show AOp _ _ ⟨_, .move _, _, _, _, _⟩ _ _ _; refine Am hG Y Y ?_)
      | (show AOp _ _ ⟨_, .assign _, _, _, _, _⟩ _ _ _; refine A7 hG Y Y ?_)
      | (show AOp _ _ ⟨_, .buildSlice _ _ _, _, _, _, _⟩ _ _ _; first | refine r_mk (sz := 1) hG Y Y Y Y Y Y Y ?_)
      | (show AOp _ _ ⟨_, .call ⟨.builtin .append, _, _⟩, _, _, _, _⟩ _ _ _; first | refine Bj (sz := 1) (xs := []) hG Y Y Y Y Y Y Y ⟨_, Y⟩ Y Y Y Y Y Y Y (by first | omega | (simp; omega)) (fun k => ?_) | refine Bq 0 hG Y Y Y Y Y Y Y ⟨_, Y⟩ Y Y Y Y Y (by first | omega | (simp only [List.length_append, List.length_cons, List.length_nil]; omega)) (fun k => ?_) | fail)
      | (show AOp _ _ ⟨_, .call ⟨.value _, _, _⟩, _, _, _, _⟩ _ _ _; first | (refine r_owns Y Y Y Y Y (by apply hc <;> (first | assumption | omega | exact Ab _ _ | exact Ad _ | exact Ae _ _ | exact Ai _ | rfl | (simp; omega))) (fun k => ?_)) | (have := kk; clear this; refine A8 Y Y Y Y Y (Owns.pure (by apply hc <;> (first | assumption | omega | exact Ab _ _ | exact Ad _ | exact Ae _ _ | exact Ai _ | rfl | (simp; omega)))) ?_) | fail)
      | refine r_q hG Y Y Y ?_))
    | (show AL _ _ _ _ _ _ _ _; first | refine Bh Y Y Y ?_ | (refine As ?_; first | show AW _ _ _ _ _ _ | show ∃ x', _ < _ ∧ _)) | (show AW _ _ (.seq _ _) _ _ _; refine Ah ?_; intro Q1) | (show AW _ _ (.region _ _ false) _ _ _; refine Af ?_; intro O1) | (show AW _ _ (.ret) _ _ _; refine Aq ?_; try dsimp only [Ap, Aa, Ao, Ac]) | fail)
  exact ret_owns 0 (Ar rfl A9) rfl rfl rfl
end Go.Proofs.Ytholeicgmkjadaa
namespace Go.Proofs.Ytholeicgmkjadaa
open Go.Ts Go.Sets
attribute [local irreducible] Go.Ts.AW Go.Ts.AOps Go.Ts.AL Go.Ts.AOp Go.Ts.ACalls Go.Ts.DL Go.Ts.DQ Go.Ts.EL
theorem putI1 (n : Nat) : putI n 1 = [UInt8.ofNat n] := by rw [putI, if_pos (by omega)]; simp [be]
end Go.Proofs.Ytholeicgmkjadaa
namespace Go.Proofs.Ytholeicgmkjadaa
open Go.Ts Go.Sets
attribute [local irreducible] Go.Ts.AW Go.Ts.AOps Go.Ts.AL Go.Ts.AOp Go.Ts.ACalls Go.Ts.DL Go.Ts.DQ Go.Ts.EL
def setsV (a b c : List UInt16) : T := .agg [cT a, cT b, cT c]
theorem sets_wk {x y z : T} {a b c : List UInt16} (hx : catsT x = some a) (hy : catsT y = some b) (hz : catsT z = some c) : Wk (.agg [x, y, z]) (setsV a b c) := Wk.aggL (wk3 (catsT_wk hx) (catsT_wk hy) (catsT_wk hz))
def B5 (a b c : List UInt16) : Bool := mayC a && mayC b && mayC c && decide (a.length + b.length + c.length ≤ 16) && decide ((mergeK kOr a (mergeK kOr b c)).length = a.length + b.length + c.length)
structure SMX (a b c : List UInt16) where
  i : Nat
  k : Nat
  hi : i ≤ 3
  hp : ∀ j, j < i → mayC ([a, b, c].getD j default) = true
theorem mayC_le {a : List UInt16} (h : mayC a = true) : a.length ≤ 16 := by
  unfold mayC at h; rw [Bool.and_eq_true, decide_eq_true_eq] at h; exact h.1
theorem sets_May {x y z : T} {a b c : List UInt16} (hx : catsT x = some a) (hy : catsT y = some b) (hz : catsT z = some c) (ha : a.length ≤ 140737488351232) (hb : b.length ≤ 140737488351232) (hc : c.length ≤ 140737488351232) :
    Pure Try.prog 81 [.agg [x, y, z]] (.bool (B5 a b c)) := by
  refine Pure.weak (us := [setsV a b c]) ?_ (wk1 (sets_wk hx hy hz))
  intro off
  refine Bs (N := 48) (rs := [.tmp 2]) hG Try.func81 rfl rfl rfl rfl rfl ?_
  repeat' (first
    | ((first | (show AL _ _ _ _ _ _ _ _; refine Ag Y ?_) | (show DL _ _ _ _ _ _ _; refine' Bt Y Y (fun K kk => ?_) ?_; try (show Go.Ts.T; rotate_left))); (first
      | (show AOp _ _ ⟨_, .move _, _, _, _, _⟩ _ _ _; refine Am hG Y Y ?_)
      | (show AOp _ _ ⟨_, .assign _, _, _, _, _⟩ _ _ _; refine A7 hG Y Y ?_)
      | (show AOp _ _ ⟨_, .call ⟨.builtin .len, _, _⟩, _, _, _, _⟩ _ _ _; first | refine Ax hG Y Y Y Y ?_ | refine Bd hG Y Y Y Y Y ?_)
      | (show AOp _ _ ⟨_, .binOp .add _ _ _ _, _, _, _, _⟩ _ _ _; first | refine Ay hG Y Y Y Y Y (by omega) ?_)
      | (show AOp _ _ ⟨_, .binOp _ _ _ _ _, _, _, _, _⟩ _ _ _; first | refine Av hG Y Y Y Y Y (by omega) ?_ | refine Au hG Y Y Y Y Y (by omega) ?_ | ((fail_if_success have := kk); refine Aw hG Y Y Y Y Y (fun h => ?_) (fun h => ?_)))
      | (show AOp _ _ ⟨_, .load _ _, _, _, _, _⟩ _ _ _; first | refine Bl hG Y Y Y ?_ | refine Az 0 hG Y Y Y Y ?_ | refine Az 1 hG Y Y Y Y ?_)
      | (show AOp _ _ ⟨_, .indexAddr _ _ _, _, _, _, _⟩ _ _ _; first | refine Bm hG Y Y Y Y Y Y Y (by omega) ?_ | refine Bk hG Y Y Y Y Y Y Y (by omega) ?_ | refine Bx hG Y Y ?_)
      | (show AOp _ _ ⟨_, .pick _ _ _, _, _, _, _⟩ _ _ _; refine Bf hG Y Y Y ?_)
      | (show AOp _ _ ⟨_, .unOp _ _ _, _, _, _, _⟩ _ _ _; refine B2 hG Y Y Y ?_)
      | (show AOp _ _ ⟨_, .buildSlice _ _ _, _, _, _, _⟩ _ _ _; first | refine r_mk (sz := 1) hG Y Y Y Y Y Y Y ?_)
      | (show AOp _ _ ⟨_, .box _ _, _, _, _, _⟩ _ _ _; refine B8 hG Y Y Y (fun i => ?_))
      | refine r_q hG Y Y Y ?_); try exact kk)
    | (show AL _ _ _ _ _ _ _ _; first | refine Bh Y Y Y ?_ | (refine As ?_; first | show AW _ _ _ _ _ _ | show ∃ x', _ < _ ∧ _)) | (show AW _ _ (.seq _ _) _ _ _; refine Ah ?_; intro Q1) | (show AW _ _ (.region _ _ false) _ _ _; refine Af ?_; intro O1) | (show AW _ _ (.cond _ _ _) _ _ _; first | refine Ak Y ?_ | refine Aj Y ?_) | (show AW _ _ (.skip) _ _ _; refine Al ?_; first | show AW _ _ _ _ _ _ | show ∃ x', _ < _ ∧ _) | (show AW _ _ (.block _ _) _ _ _; refine Ba ?_; intro Q1) | (show AW _ _ (.exit _) _ _ _; refine Bu ?_; first | show AW _ _ _ _ _ _ | show ∃ x', _ < _ ∧ _) | (show AW _ _ (.ret) _ _ _; refine Aq ?_; try dsimp only [Ap, Aa, Ao, Ac])
    | (show DL _ _ _ _ _ _ _; refine dl_d Y Y (fun K kt kf => Aw hG Y Y Y Y Y kt kf) (fun h => ?_) (fun h => ?_))
    | (show DL _ _ _ _ _ _ _; refine dl_s Y Y Y ?_) | (show DL _ _ _ _ _ _ _; refine B0 ?_; first | show AW _ _ _ _ _ _ | show ∃ x', _ < _ ∧ _) | (show AW _ _ (.region _ _ true) _ _ _; refine Bp mix (by kernel_rfl) ?_; intro O1) | fail)
  refine aw_loop (X := SMX a b c) (fun x => [(1, .ptr x.k 0), (12, .sl 1 .no ([a, b, c].map cT)), (13, .int .i64 3), (14, .int .i64 x.i)]) (fun x => ⟨[(x.k, .cells [cT a, cT b, cT c])], [], off, none⟩) (fun x => 3 - x.i) ⟨0, i, by omega, fun j hj => by omega⟩ ?_ (.refl _) ?_
  · exact .cons rfl (.consW rfl (Wk.own _ _ _) (.cons rfl (.consW rfl (.int rfl) (.nil _))))
  rintro ⟨j, i, hj, hp⟩
  dsimp only
  have h3 : [a, b, c].length = 3 := rfl
  by_cases hj3 : j < 3
  · have hl : ([a, b, c].getD j default).length ≤ 140737488351232 := by
      rcases (by omega : j = 0 ∨ j = 1 ∨ j = 2) with rfl | rfl | rfl <;> simp <;> omega
    have hm := cats_May (Ai _) hl
    cases hma : mayC ([a, b, c].getD j default) <;> rw [hma] at hm
    · repeat' (first
    | ((first | (show AL _ _ _ _ _ _ _ _; refine Ag Y ?_) | (show DL _ _ _ _ _ _ _; refine' Bt Y Y (fun K kk => ?_) ?_; try (show Go.Ts.T; rotate_left))); (first
      | (show AOp _ _ ⟨_, .move _, _, _, _, _⟩ _ _ _; refine Am hG Y Y ?_)
      | (show AOp _ _ ⟨_, .assign _, _, _, _, _⟩ _ _ _; refine A7 hG Y Y ?_)
      | (show AOp _ _ ⟨_, .call ⟨.builtin .len, _, _⟩, _, _, _, _⟩ _ _ _; first | refine Ax hG Y Y Y Y ?_ | refine Bd hG Y Y Y Y Y ?_)
      | (show AOp _ _ ⟨_, .binOp .add _ _ _ _, _, _, _, _⟩ _ _ _; first | refine Ay hG Y Y Y Y Y (by omega) ?_)
      | (show AOp _ _ ⟨_, .binOp _ _ _ _ _, _, _, _, _⟩ _ _ _; first | refine Av hG Y Y Y Y Y (by omega) ?_ | refine Au hG Y Y Y Y Y (by omega) ?_ | ((fail_if_success have := kk); refine Aw hG Y Y Y Y Y (fun h => ?_) (fun h => ?_)))
      | (show AOp _ _ ⟨_, .load _ _, _, _, _, _⟩ _ _ _; first | refine Bl hG Y Y Y ?_ | refine Az 0 hG Y Y Y Y ?_ | refine Az 1 hG Y Y Y Y ?_)
      | (show AOp _ _ ⟨_, .indexAddr _ _ _, _, _, _, _⟩ _ _ _; first | refine Bm hG Y Y Y Y Y Y Y (by omega) ?_ | refine Bk hG Y Y Y Y Y Y Y (by omega) ?_ | refine Bx hG Y Y ?_)
      | (show AOp _ _ ⟨_, .pick _ _ _, _, _, _, _⟩ _ _ _; refine Bf hG Y Y Y ?_)
      | (show AOp _ _ ⟨_, .unOp _ _ _, _, _, _, _⟩ _ _ _; refine B2 hG Y Y Y ?_)
      | (show AOp _ _ ⟨_, .buildSlice _ _ _, _, _, _, _⟩ _ _ _; first | refine r_mk (sz := 1) hG Y Y Y Y Y Y Y ?_)
      | (show AOp _ _ ⟨_, .box _ _, _, _, _, _⟩ _ _ _; refine B8 hG Y Y Y (fun i => ?_))
      | (show AOp _ _ ⟨_, .call ⟨.value _, _, _⟩, _, _, _, _⟩ _ _ _; first | refine A8 Y Y Y Y Y (by apply hm <;> (first | assumption | omega | exact Ab _ _ | exact Ad _ | exact Ae _ _ | exact Ai _ | rfl | (simp; omega))) ?_ | fail)
      | refine r_q hG Y Y Y ?_); try exact kk)
    | (show AL _ _ _ _ _ _ _ _; first | refine Bh Y Y Y ?_ | (refine As ?_; first | show AW _ _ _ _ _ _ | show ∃ x', _ < _ ∧ _)) | (show AW _ _ (.seq _ _) _ _ _; refine Ah ?_; intro Q1) | (show AW _ _ (.region _ _ false) _ _ _; refine Af ?_; intro O1) | (show AW _ _ (.cond _ _ _) _ _ _; first | refine Ak Y ?_ | refine Aj Y ?_) | (show AW _ _ (.skip) _ _ _; refine Al ?_; first | show AW _ _ _ _ _ _ | show ∃ x', _ < _ ∧ _) | (show AW _ _ (.block _ _) _ _ _; refine Ba ?_; intro Q1) | (show AW _ _ (.exit _) _ _ _; refine Bu ?_; first | show AW _ _ _ _ _ _ | show ∃ x', _ < _ ∧ _) | (show AW _ _ (.ret) _ _ _; refine Aq ?_; try dsimp only [Ap, Aa, Ao, Ac])
    | (show DL _ _ _ _ _ _ _; refine dl_d Y Y (fun K kt kf => Aw hG Y Y Y Y Y kt kf) (fun h => ?_) (fun h => ?_))
    | (show DL _ _ _ _ _ _ _; refine dl_s Y Y Y ?_) | (show DL _ _ _ _ _ _ _; refine B0 ?_; first | show AW _ _ _ _ _ _ | show ∃ x', _ < _ ∧ _) | (show AW _ _ (.region _ _ true) _ _ _; refine Bp mix (by kernel_rfl) ?_; intro O1) | fail)
      refine Bb (Ar rfl A9) (.eq ?_) rfl
      have : B5 a b c = false := by
        rcases (by omega : j = 0 ∨ j = 1 ∨ j = 2) with rfl | rfl | rfl <;> (simp at hma; simp [B5, hma])
      rw [this]; rfl
    · repeat' (first
    | ((first | (show AL _ _ _ _ _ _ _ _; refine Ag Y ?_) | (show DL _ _ _ _ _ _ _; refine' Bt Y Y (fun K kk => ?_) ?_; try (show Go.Ts.T; rotate_left))); (first
      | (show AOp _ _ ⟨_, .move _, _, _, _, _⟩ _ _ _; refine Am hG Y Y ?_)
      | (show AOp _ _ ⟨_, .assign _, _, _, _, _⟩ _ _ _; refine A7 hG Y Y ?_)
      | (show AOp _ _ ⟨_, .call ⟨.builtin .len, _, _⟩, _, _, _, _⟩ _ _ _; first | refine Ax hG Y Y Y Y ?_ | refine Bd hG Y Y Y Y Y ?_)
      | (show AOp _ _ ⟨_, .binOp .add _ _ _ _, _, _, _, _⟩ _ _ _; first | refine Ay hG Y Y Y Y Y (by omega) ?_)
      | (show AOp _ _ ⟨_, .binOp _ _ _ _ _, _, _, _, _⟩ _ _ _; first | refine Av hG Y Y Y Y Y (by omega) ?_ | refine Au hG Y Y Y Y Y (by omega) ?_ | ((fail_if_success have := kk); refine Aw hG Y Y Y Y Y (fun h => ?_) (fun h => ?_)))
      | (show AOp _ _ ⟨_, .load _ _, _, _, _, _⟩ _ _ _; first | refine Bl hG Y Y Y ?_ | refine Az 0 hG Y Y Y Y ?_ | refine Az 1 hG Y Y Y Y ?_)
      | (show AOp _ _ ⟨_, .indexAddr _ _ _, _, _, _, _⟩ _ _ _; first | refine Bm hG Y Y Y Y Y Y Y (by omega) ?_ | refine Bk hG Y Y Y Y Y Y Y (by omega) ?_ | refine Bx hG Y Y ?_)
      | (show AOp _ _ ⟨_, .pick _ _ _, _, _, _, _⟩ _ _ _; refine Bf hG Y Y Y ?_)
      | (show AOp _ _ ⟨_, .unOp _ _ _, _, _, _, _⟩ _ _ _; refine B2 hG Y Y Y ?_)
      | (show AOp _ _ ⟨_, .buildSlice _ _ _, _, _, _, _⟩ _ _ _; first | refine r_mk (sz := 1) hG Y Y Y Y Y Y Y ?_)
      | (show AOp _ _ ⟨_, .box _ _, _, _, _, _⟩ _ _ _; refine B8 hG Y Y Y (fun i => ?_))
      | (show AOp _ _ ⟨_, .call ⟨.value _, _, _⟩, _, _, _, _⟩ _ _ _; first | refine A8 Y Y Y Y Y (by apply hm <;> (first | assumption | omega | exact Ab _ _ | exact Ad _ | exact Ae _ _ | exact Ai _ | rfl | (simp; omega))) ?_ | fail)
      | refine r_q hG Y Y Y ?_); try exact kk)
    | (show AL _ _ _ _ _ _ _ _; first | refine Bh Y Y Y ?_ | (refine As ?_; first | show AW _ _ _ _ _ _ | show ∃ x', _ < _ ∧ _)) | (show AW _ _ (.seq _ _) _ _ _; refine Ah ?_; intro Q1) | (show AW _ _ (.region _ _ false) _ _ _; refine Af ?_; intro O1) | (show AW _ _ (.cond _ _ _) _ _ _; first | refine Ak Y ?_ | refine Aj Y ?_) | (show AW _ _ (.skip) _ _ _; refine Al ?_; first | show AW _ _ _ _ _ _ | show ∃ x', _ < _ ∧ _) | (show AW _ _ (.block _ _) _ _ _; refine Ba ?_; intro Q1) | (show AW _ _ (.exit _) _ _ _; refine Bu ?_; first | show AW _ _ _ _ _ _ | show ∃ x', _ < _ ∧ _) | (show AW _ _ (.ret) _ _ _; refine Aq ?_; try dsimp only [Ap, Aa, Ao, Ac])
    | (show DL _ _ _ _ _ _ _; refine dl_d Y Y (fun K kt kf => Aw hG Y Y Y Y Y kt kf) (fun h => ?_) (fun h => ?_))
    | (show DL _ _ _ _ _ _ _; refine dl_s Y Y Y ?_) | (show DL _ _ _ _ _ _ _; refine B0 ?_; first | show AW _ _ _ _ _ _ | show ∃ x', _ < _ ∧ _) | (show AW _ _ (.region _ _ true) _ _ _; refine Bp mix (by kernel_rfl) ?_; intro O1) | fail)
      refine ⟨⟨j + 1, i, by omega, fun j' h => ?_⟩, by dsimp only; omega, ?_, .refl _⟩
      · by_cases h2 : j' < j
        · exact hp j' h2
        · obtain rfl : j' = j := by omega
          exact hma
      · exact .cons rfl (.cons rfl (.cons rfl (.consW rfl (.int (by simp)) (.nil _))))
  · obtain rfl : j = 3 := by omega
    have q1 : mayC a = true := hp 0 (by omega)
    have q2 : mayC b = true := hp 1 (by omega)
    have q3 : mayC c = true := hp 2 (by omega)
    have p1 := mayC_le q1
    have p2 := mayC_le q2
    have p3 := mayC_le q3
    have hm1 := merge_length_le kOr b c
    have hm2 := merge_length_le kOr a (mergeK kOr b c)
    by_cases hn : a.length + b.length + c.length ≤ 16
    · by_cases he : (mergeK kOr a (mergeK kOr b c)).length = a.length + b.length + c.length
      · repeat' (first
    | ((first | (show AL _ _ _ _ _ _ _ _; refine Ag Y ?_) | (show DL _ _ _ _ _ _ _; refine' Bt Y Y (fun K kk => ?_) ?_; try (show Go.Ts.T; rotate_left))); (first
      | (show AOp _ _ ⟨_, .move _, _, _, _, _⟩ _ _ _; refine Am hG Y Y ?_)
      | (show AOp _ _ ⟨_, .assign _, _, _, _, _⟩ _ _ _; refine A7 hG Y Y ?_)
      | (show AOp _ _ ⟨_, .call ⟨.builtin .len, _, _⟩, _, _, _, _⟩ _ _ _; first | refine Ax hG Y Y Y Y ?_ | refine Bd hG Y Y Y Y Y ?_)
      | (show AOp _ _ ⟨_, .binOp .add _ _ _ _, _, _, _, _⟩ _ _ _; first | refine Ay hG Y Y Y Y Y (by omega) ?_)
      | (show AOp _ _ ⟨_, .binOp _ _ _ _ _, _, _, _, _⟩ _ _ _; first | refine Av hG Y Y Y Y Y (by omega) ?_ | refine Au hG Y Y Y Y Y (by omega) ?_ | ((fail_if_success have := kk); refine Aw hG Y Y Y Y Y (fun h => ?_) (fun h => ?_)))
      | (show AOp _ _ ⟨_, .load _ _, _, _, _, _⟩ _ _ _; first | refine Bl hG Y Y Y ?_ | refine Az 0 hG Y Y Y Y ?_ | refine Az 1 hG Y Y Y Y ?_)
      | (show AOp _ _ ⟨_, .indexAddr _ _ _, _, _, _, _⟩ _ _ _; first | refine Bm hG Y Y Y Y Y Y Y (by omega) ?_ | refine Bk hG Y Y Y Y Y Y Y (by omega) ?_ | refine Bx hG Y Y ?_)
      | (show AOp _ _ ⟨_, .pick _ _ _, _, _, _, _⟩ _ _ _; refine Bf hG Y Y Y ?_)
      | (show AOp _ _ ⟨_, .unOp _ _ _, _, _, _, _⟩ _ _ _; refine B2 hG Y Y Y ?_)
      | (show AOp _ _ ⟨_, .buildSlice _ _ _, _, _, _, _⟩ _ _ _; first | refine r_mk (sz := 1) hG Y Y Y Y Y Y Y ?_)
      | (show AOp _ _ ⟨_, .box _ _, _, _, _, _⟩ _ _ _; refine B8 hG Y Y Y (fun i => ?_))
      | (show AOp _ _ ⟨_, .call ⟨.value _, _, _⟩, _, _, _, _⟩ _ _ _; first | ((fail_if_success have := kk); refine r_owns Y Y Y Y Y (by apply cats_Or <;> (first | assumption | omega | exact Ab _ _ | exact Ad _ | exact Ae _ _ | exact Ai _ | rfl | (simp; omega))) (fun k => ?_)) | (have := kk; clear this; refine A8 Y Y Y Y Y (Owns.pure (by apply cats_Or <;> (first | assumption | omega | exact Ab _ _ | exact Ad _ | exact Ae _ _ | exact Ai _ | rfl | (simp; omega)))) ?_) | fail)
      | refine r_q hG Y Y Y ?_); try exact kk)
    | (show AL _ _ _ _ _ _ _ _; first | refine Bh Y Y Y ?_ | (refine As ?_; first | show AW _ _ _ _ _ _ | show ∃ x', _ < _ ∧ _)) | (show AW _ _ (.seq _ _) _ _ _; refine Ah ?_; intro Q1) | (show AW _ _ (.region _ _ false) _ _ _; refine Af ?_; intro O1) | (show AW _ _ (.cond _ _ _) _ _ _; first | refine Ak Y ?_ | refine Aj Y ?_) | (show AW _ _ (.skip) _ _ _; refine Al ?_; first | show AW _ _ _ _ _ _ | show ∃ x', _ < _ ∧ _) | (show AW _ _ (.block _ _) _ _ _; refine Ba ?_; intro Q1) | (show AW _ _ (.exit _) _ _ _; refine Bu ?_; first | show AW _ _ _ _ _ _ | show ∃ x', _ < _ ∧ _) | (show AW _ _ (.ret) _ _ _; refine Aq ?_; try dsimp only [Ap, Aa, Ao, Ac])
    | (show DL _ _ _ _ _ _ _; refine dl_d Y Y (fun K kt kf => Aw hG Y Y Y Y Y kt kf) (fun h => ?_) (fun h => ?_))
    | (show DL _ _ _ _ _ _ _; refine dl_s Y Y Y ?_) | (show DL _ _ _ _ _ _ _; refine B0 ?_; first | show AW _ _ _ _ _ _ | show ∃ x', _ < _ ∧ _) | (show AW _ _ (.region _ _ true) _ _ _; refine Bp mix (by kernel_rfl) ?_; intro O1) | fail)
        exact Bb (Ar rfl A9) (.eq (by rw [show B5 a b c = true by unfold B5; simp only [q1, q2, q3, decide_eq_true hn, decide_eq_true he]; rfl]; rfl)) rfl
      · repeat' (first
    | ((first | (show AL _ _ _ _ _ _ _ _; refine Ag Y ?_) | (show DL _ _ _ _ _ _ _; refine' Bt Y Y (fun K kk => ?_) ?_; try (show Go.Ts.T; rotate_left))); (first
      | (show AOp _ _ ⟨_, .move _, _, _, _, _⟩ _ _ _; refine Am hG Y Y ?_)
      | (show AOp _ _ ⟨_, .assign _, _, _, _, _⟩ _ _ _; refine A7 hG Y Y ?_)
      | (show AOp _ _ ⟨_, .call ⟨.builtin .len, _, _⟩, _, _, _, _⟩ _ _ _; first | refine Ax hG Y Y Y Y ?_ | refine Bd hG Y Y Y Y Y ?_)
      | (show AOp _ _ ⟨_, .binOp .add _ _ _ _, _, _, _, _⟩ _ _ _; first | refine Ay hG Y Y Y Y Y (by omega) ?_)
      | (show AOp _ _ ⟨_, .binOp _ _ _ _ _, _, _, _, _⟩ _ _ _; first | refine Av hG Y Y Y Y Y (by omega) ?_ | refine Au hG Y Y Y Y Y (by omega) ?_ | ((fail_if_success have := kk); refine Aw hG Y Y Y Y Y (fun h => ?_) (fun h => ?_)))
      | (show AOp _ _ ⟨_, .load _ _, _, _, _, _⟩ _ _ _; first | refine Bl hG Y Y Y ?_ | refine Az 0 hG Y Y Y Y ?_ | refine Az 1 hG Y Y Y Y ?_)
      | (show AOp _ _ ⟨_, .indexAddr _ _ _, _, _, _, _⟩ _ _ _; first | refine Bm hG Y Y Y Y Y Y Y (by omega) ?_ | refine Bk hG Y Y Y Y Y Y Y (by omega) ?_ | refine Bx hG Y Y ?_)
      | (show AOp _ _ ⟨_, .pick _ _ _, _, _, _, _⟩ _ _ _; refine Bf hG Y Y Y ?_)
      | (show AOp _ _ ⟨_, .unOp _ _ _, _, _, _, _⟩ _ _ _; refine B2 hG Y Y Y ?_)
      | (show AOp _ _ ⟨_, .buildSlice _ _ _, _, _, _, _⟩ _ _ _; first | refine r_mk (sz := 1) hG Y Y Y Y Y Y Y ?_)
      | (show AOp _ _ ⟨_, .box _ _, _, _, _, _⟩ _ _ _; refine B8 hG Y Y Y (fun i => ?_))
      | (show AOp _ _ ⟨_, .call ⟨.value _, _, _⟩, _, _, _, _⟩ _ _ _; first | ((fail_if_success have := kk); refine r_owns Y Y Y Y Y (by apply cats_Or <;> (first | assumption | omega | exact Ab _ _ | exact Ad _ | exact Ae _ _ | exact Ai _ | rfl | (simp; omega))) (fun k => ?_)) | (have := kk; clear this; refine A8 Y Y Y Y Y (Owns.pure (by apply cats_Or <;> (first | assumption | omega | exact Ab _ _ | exact Ad _ | exact Ae _ _ | exact Ai _ | rfl | (simp; omega)))) ?_) | fail)
      | refine r_q hG Y Y Y ?_); try exact kk)
    | (show AL _ _ _ _ _ _ _ _; first | refine Bh Y Y Y ?_ | (refine As ?_; first | show AW _ _ _ _ _ _ | show ∃ x', _ < _ ∧ _)) | (show AW _ _ (.seq _ _) _ _ _; refine Ah ?_; intro Q1) | (show AW _ _ (.region _ _ false) _ _ _; refine Af ?_; intro O1) | (show AW _ _ (.cond _ _ _) _ _ _; first | refine Ak Y ?_ | refine Aj Y ?_) | (show AW _ _ (.skip) _ _ _; refine Al ?_; first | show AW _ _ _ _ _ _ | show ∃ x', _ < _ ∧ _) | (show AW _ _ (.block _ _) _ _ _; refine Ba ?_; intro Q1) | (show AW _ _ (.exit _) _ _ _; refine Bu ?_; first | show AW _ _ _ _ _ _ | show ∃ x', _ < _ ∧ _) | (show AW _ _ (.ret) _ _ _; refine Aq ?_; try dsimp only [Ap, Aa, Ao, Ac])
    | (show DL _ _ _ _ _ _ _; refine dl_d Y Y (fun K kt kf => Aw hG Y Y Y Y Y kt kf) (fun h => ?_) (fun h => ?_))
    | (show DL _ _ _ _ _ _ _; refine dl_s Y Y Y ?_) | (show DL _ _ _ _ _ _ _; refine B0 ?_; first | show AW _ _ _ _ _ _ | show ∃ x', _ < _ ∧ _) | (show AW _ _ (.region _ _ true) _ _ _; refine Bp mix (by kernel_rfl) ?_; intro O1) | fail)
        exact Bb (Ar rfl A9) (.eq (by rw [show B5 a b c = false by unfold B5; simp only [q1, q2, q3, decide_eq_true hn, decide_eq_false he]; rfl]; rfl)) rfl
    · repeat' (first
    | ((first | (show AL _ _ _ _ _ _ _ _; refine Ag Y ?_) | (show DL _ _ _ _ _ _ _; refine' Bt Y Y (fun K kk => ?_) ?_; try (show Go.Ts.T; rotate_left))); (first
      | (show AOp _ _ ⟨_, .move _, _, _, _, _⟩ _ _ _; refine Am hG Y Y ?_)
      | (show AOp _ _ ⟨_, .assign _, _, _, _, _⟩ _ _ _; refine A7 hG Y Y ?_)
      | (show AOp _ _ ⟨_, .call ⟨.builtin .len, _, _⟩, _, _, _, _⟩ _ _ _; first | refine Ax hG Y Y Y Y ?_ | refine Bd hG Y Y Y Y Y ?_)
      | (show AOp _ _ ⟨_, .binOp .add _ _ _ _, _, _, _, _⟩ _ _ _; first | refine Ay hG Y Y Y Y Y (by omega) ?_)
      | (show AOp _ _ ⟨_, .binOp _ _ _ _ _, _, _, _, _⟩ _ _ _; first | refine Av hG Y Y Y Y Y (by omega) ?_ | refine Au hG Y Y Y Y Y (by omega) ?_ | ((fail_if_success have := kk); refine Aw hG Y Y Y Y Y (fun h => ?_) (fun h => ?_)))
      | (show AOp _ _ ⟨_, .load _ _, _, _, _, _⟩ _ _ _; first | refine Bl hG Y Y Y ?_ | refine Az 0 hG Y Y Y Y ?_ | refine Az 1 hG Y Y Y Y ?_)
      | (show AOp _ _ ⟨_, .indexAddr _ _ _, _, _, _, _⟩ _ _ _; first | refine Bm hG Y Y Y Y Y Y Y (by omega) ?_ | refine Bk hG Y Y Y Y Y Y Y (by omega) ?_ | refine Bx hG Y Y ?_)
      | (show AOp _ _ ⟨_, .pick _ _ _, _, _, _, _⟩ _ _ _; refine Bf hG Y Y Y ?_)
      | (show AOp _ _ ⟨_, .unOp _ _ _, _, _, _, _⟩ _ _ _; refine B2 hG Y Y Y ?_)
      | (show AOp _ _ ⟨_, .buildSlice _ _ _, _, _, _, _⟩ _ _ _; first | refine r_mk (sz := 1) hG Y Y Y Y Y Y Y ?_)
      | (show AOp _ _ ⟨_, .box _ _, _, _, _, _⟩ _ _ _; refine B8 hG Y Y Y (fun i => ?_))
      | refine r_q hG Y Y Y ?_); try exact kk)
    | (show AL _ _ _ _ _ _ _ _; first | refine Bh Y Y Y ?_ | (refine As ?_; first | show AW _ _ _ _ _ _ | show ∃ x', _ < _ ∧ _)) | (show AW _ _ (.seq _ _) _ _ _; refine Ah ?_; intro Q1) | (show AW _ _ (.region _ _ false) _ _ _; refine Af ?_; intro O1) | (show AW _ _ (.cond _ _ _) _ _ _; first | refine Ak Y ?_ | refine Aj Y ?_) | (show AW _ _ (.skip) _ _ _; refine Al ?_; first | show AW _ _ _ _ _ _ | show ∃ x', _ < _ ∧ _) | (show AW _ _ (.block _ _) _ _ _; refine Ba ?_; intro Q1) | (show AW _ _ (.exit _) _ _ _; refine Bu ?_; first | show AW _ _ _ _ _ _ | show ∃ x', _ < _ ∧ _) | (show AW _ _ (.ret) _ _ _; refine Aq ?_; try dsimp only [Ap, Aa, Ao, Ac])
    | (show DL _ _ _ _ _ _ _; refine dl_d Y Y (fun K kt kf => Aw hG Y Y Y Y Y kt kf) (fun h => ?_) (fun h => ?_))
    | (show DL _ _ _ _ _ _ _; refine dl_s Y Y Y ?_) | (show DL _ _ _ _ _ _ _; refine B0 ?_; first | show AW _ _ _ _ _ _ | show ∃ x', _ < _ ∧ _) | (show AW _ _ (.region _ _ true) _ _ _; refine Bp mix (by kernel_rfl) ?_; intro O1) | fail)
      exact Bb (Ar rfl A9) (.eq (by rw [show B5 a b c = false by unfold B5; simp only [q1, q2, q3, decide_eq_false hn]; rfl]; rfl)) rfl

theorem mayC_up {a : List UInt16} (h : mayC a = true) : Up a := by
  unfold mayC at h; rw [Bool.and_eq_true] at h; exact risesB_iff.1 h.2
theorem or_assoc' {a b c : List UInt16} (ha : Up a) (hb : Up b) (hc : Up c) : mk (mk (a ++ b) ++ c) = mergeK kOr a (mergeK kOr b c) := by
  have h1 := merge_up kOr b c hb hc
  refine up_ext (mk_up _) (merge_up kOr _ _ ha h1) fun z => ?_
  rw [mk_mem, List.mem_append, mk_mem, List.mem_append, or_mem ha h1, or_mem hb hc, or_assoc]
theorem ref_MaySets {x y z : T} {a b c : List UInt16} (hx : catsT x = some a) (hy : catsT y = some b) (hz : catsT z = some c) (ha : a.length ≤ 140737488351232) (hb : b.length ≤ 140737488351232) (hc : c.length ≤ 140737488351232) :
    Pure Try.prog 40 [.agg [x, y, z]] (.bool (B5 a b c)) := by
  refine Pure.weak (us := [setsV a b c]) ?_ (wk1 (sets_wk hx hy hz))
  intro off
  refine Bs (N := 47) (rs := [.tmp 2]) hG Try.func40 rfl rfl rfl rfl rfl ?_
  have m1 := ref_MaySet (Ai a) (by omega)
  have m2 := ref_MaySet (Ai b) (by omega)
  have m3 := ref_MaySet (Ai c) (by omega)
  cases q1 : mayC a <;> rw [q1] at m1
  · repeat' (first
    | ((first | (show AL _ _ _ _ _ _ _ _; refine Ag Y ?_) | (show DL _ _ _ _ _ _ _; refine' Bt Y Y (fun K kk => ?_) ?_; try (show Go.Ts.T; rotate_left))); (first
      | (show AOp _ _ ⟨_, .move _, _, _, _, _⟩ _ _ _; refine Am hG Y Y ?_)
      | (show AOp _ _ ⟨_, .assign _, _, _, _, _⟩ _ _ _; refine A7 hG Y Y ?_)
      | (show AOp _ _ ⟨_, .call ⟨.builtin .len, _, _⟩, _, _, _, _⟩ _ _ _; first | refine Ax hG Y Y Y Y ?_ | refine Bd hG Y Y Y Y Y ?_)
      | (show AOp _ _ ⟨_, .binOp .add _ _ _ _, _, _, _, _⟩ _ _ _; first | refine Ay hG Y Y Y Y Y (by omega) ?_)
      | (show AOp _ _ ⟨_, .binOp _ _ _ _ _, _, _, _, _⟩ _ _ _; first | refine Av hG Y Y Y Y Y (by omega) ?_ | refine Au hG Y Y Y Y Y (by omega) ?_ | ((fail_if_success have := kk); refine Aw hG Y Y Y Y Y (fun h => ?_) (fun h => ?_)))
      | (show AOp _ _ ⟨_, .load _ _, _, _, _, _⟩ _ _ _; first | refine Az 0 hG Y Y Y Y ?_ | refine Az 1 hG Y Y Y Y ?_)
      | (show AOp _ _ ⟨_, .pick _ _ _, _, _, _, _⟩ _ _ _; refine Bf hG Y Y Y ?_)
      | (show AOp _ _ ⟨_, .unOp _ _ _, _, _, _, _⟩ _ _ _; refine B2 hG Y Y Y ?_)
      | (show AOp _ _ ⟨_, .box _ _, _, _, _, _⟩ _ _ _; refine B8 hG Y Y Y (fun i => ?_))
      | (show AOp _ _ ⟨_, .call ⟨.value _, _, _⟩, _, _, _, _⟩ _ _ _; first | refine A8 Y Y Y Y Y (by apply m1 <;> (first | assumption | omega | exact Ab _ _ | exact Ad _ | exact Ae _ _ | exact Ai _ | rfl | (simp; omega))) ?_ | fail)
      | refine r_q hG Y Y Y ?_); try exact kk)
    | (show AL _ _ _ _ _ _ _ _; first | refine Bh Y Y Y ?_ | (refine As ?_; first | show AW _ _ _ _ _ _ | show ∃ x', _ < _ ∧ _)) | (show AW _ _ (.seq _ _) _ _ _; refine Ah ?_; intro Q1) | (show AW _ _ (.region _ _ false) _ _ _; refine Af ?_; intro O1) | (show AW _ _ (.cond _ _ _) _ _ _; first | refine Ak Y ?_ | refine Aj Y ?_) | (show AW _ _ (.skip) _ _ _; refine Al ?_; first | show AW _ _ _ _ _ _ | show ∃ x', _ < _ ∧ _) | (show AW _ _ (.ret) _ _ _; refine Aq ?_; try dsimp only [Ap, Aa, Ao, Ac])
    | (show DL _ _ _ _ _ _ _; refine dl_d Y Y (fun K kt kf => Aw hG Y Y Y Y Y kt kf) (fun h => ?_) (fun h => ?_))
    | (show DL _ _ _ _ _ _ _; refine dl_s Y Y Y ?_) | (show DL _ _ _ _ _ _ _; refine B0 ?_; first | show AW _ _ _ _ _ _ | show ∃ x', _ < _ ∧ _) | (show AW _ _ (.region _ _ true) _ _ _; refine Bp mix (by kernel_rfl) ?_; intro O1) | fail)
    exact Bb (Ar rfl A9) (.eq (by rw [B5, q1]; rfl)) rfl
  cases q2 : mayC b <;> rw [q2] at m2
  · repeat' (first
    | ((first | (show AL _ _ _ _ _ _ _ _; refine Ag Y ?_) | (show DL _ _ _ _ _ _ _; refine' Bt Y Y (fun K kk => ?_) ?_; try (show Go.Ts.T; rotate_left))); (first
      | (show AOp _ _ ⟨_, .move _, _, _, _, _⟩ _ _ _; refine Am hG Y Y ?_)
      | (show AOp _ _ ⟨_, .assign _, _, _, _, _⟩ _ _ _; refine A7 hG Y Y ?_)
      | (show AOp _ _ ⟨_, .call ⟨.builtin .len, _, _⟩, _, _, _, _⟩ _ _ _; first | refine Ax hG Y Y Y Y ?_ | refine Bd hG Y Y Y Y Y ?_)
      | (show AOp _ _ ⟨_, .binOp .add _ _ _ _, _, _, _, _⟩ _ _ _; first | refine Ay hG Y Y Y Y Y (by omega) ?_)
      | (show AOp _ _ ⟨_, .binOp _ _ _ _ _, _, _, _, _⟩ _ _ _; first | refine Av hG Y Y Y Y Y (by omega) ?_ | refine Au hG Y Y Y Y Y (by omega) ?_ | ((fail_if_success have := kk); refine Aw hG Y Y Y Y Y (fun h => ?_) (fun h => ?_)))
      | (show AOp _ _ ⟨_, .load _ _, _, _, _, _⟩ _ _ _; first | refine Az 0 hG Y Y Y Y ?_ | refine Az 1 hG Y Y Y Y ?_)
      | (show AOp _ _ ⟨_, .pick _ _ _, _, _, _, _⟩ _ _ _; refine Bf hG Y Y Y ?_)
      | (show AOp _ _ ⟨_, .unOp _ _ _, _, _, _, _⟩ _ _ _; refine B2 hG Y Y Y ?_)
      | (show AOp _ _ ⟨_, .box _ _, _, _, _, _⟩ _ _ _; refine B8 hG Y Y Y (fun i => ?_))
      | (show AOp _ _ ⟨_, .call ⟨.value _, _, _⟩, _, _, _, _⟩ _ _ _; first | refine A8 Y Y Y Y Y (by apply m1 <;> (first | assumption | omega | exact Ab _ _ | exact Ad _ | exact Ae _ _ | exact Ai _ | rfl | (simp; omega))) ?_ | refine A8 Y Y Y Y Y (by apply m2 <;> (first | assumption | omega | exact Ab _ _ | exact Ad _ | exact Ae _ _ | exact Ai _ | rfl | (simp; omega))) ?_ | fail)
      | refine r_q hG Y Y Y ?_); try exact kk)
    | (show AL _ _ _ _ _ _ _ _; first | refine Bh Y Y Y ?_ | (refine As ?_; first | show AW _ _ _ _ _ _ | show ∃ x', _ < _ ∧ _)) | (show AW _ _ (.seq _ _) _ _ _; refine Ah ?_; intro Q1) | (show AW _ _ (.region _ _ false) _ _ _; refine Af ?_; intro O1) | (show AW _ _ (.cond _ _ _) _ _ _; first | refine Ak Y ?_ | refine Aj Y ?_) | (show AW _ _ (.skip) _ _ _; refine Al ?_; first | show AW _ _ _ _ _ _ | show ∃ x', _ < _ ∧ _) | (show AW _ _ (.ret) _ _ _; refine Aq ?_; try dsimp only [Ap, Aa, Ao, Ac])
    | (show DL _ _ _ _ _ _ _; refine dl_d Y Y (fun K kt kf => Aw hG Y Y Y Y Y kt kf) (fun h => ?_) (fun h => ?_))
    | (show DL _ _ _ _ _ _ _; refine dl_s Y Y Y ?_) | (show DL _ _ _ _ _ _ _; refine B0 ?_; first | show AW _ _ _ _ _ _ | show ∃ x', _ < _ ∧ _) | (show AW _ _ (.region _ _ true) _ _ _; refine Bp mix (by kernel_rfl) ?_; intro O1) | fail)
    exact Bb (Ar rfl A9) (.eq (by rw [B5, q1, q2]; rfl)) rfl
  cases q3 : mayC c <;> rw [q3] at m3
  · repeat' (first
    | ((first | (show AL _ _ _ _ _ _ _ _; refine Ag Y ?_) | (show DL _ _ _ _ _ _ _; refine' Bt Y Y (fun K kk => ?_) ?_; try (show Go.Ts.T; rotate_left))); (first
      | (show AOp _ _ ⟨_, .move _, _, _, _, _⟩ _ _ _; refine Am hG Y Y ?_)
      | (show AOp _ _ ⟨_, .assign _, _, _, _, _⟩ _ _ _; refine A7 hG Y Y ?_)
      | (show AOp _ _ ⟨_, .call ⟨.builtin .len, _, _⟩, _, _, _, _⟩ _ _ _; first | refine Ax hG Y Y Y Y ?_ | refine Bd hG Y Y Y Y Y ?_)
      | (show AOp _ _ ⟨_, .binOp .add _ _ _ _, _, _, _, _⟩ _ _ _; first | refine Ay hG Y Y Y Y Y (by omega) ?_)
      | (show AOp _ _ ⟨_, .binOp _ _ _ _ _, _, _, _, _⟩ _ _ _; first | refine Av hG Y Y Y Y Y (by omega) ?_ | refine Au hG Y Y Y Y Y (by omega) ?_ | ((fail_if_success have := kk); refine Aw hG Y Y Y Y Y (fun h => ?_) (fun h => ?_)))
      | (show AOp _ _ ⟨_, .load _ _, _, _, _, _⟩ _ _ _; first | refine Az 0 hG Y Y Y Y ?_ | refine Az 1 hG Y Y Y Y ?_)
      | (show AOp _ _ ⟨_, .pick _ _ _, _, _, _, _⟩ _ _ _; refine Bf hG Y Y Y ?_)
      | (show AOp _ _ ⟨_, .unOp _ _ _, _, _, _, _⟩ _ _ _; refine B2 hG Y Y Y ?_)
      | (show AOp _ _ ⟨_, .box _ _, _, _, _, _⟩ _ _ _; refine B8 hG Y Y Y (fun i => ?_))
      | (show AOp _ _ ⟨_, .call ⟨.value _, _, _⟩, _, _, _, _⟩ _ _ _; first | refine A8 Y Y Y Y Y (by apply m1 <;> (first | assumption | omega | exact Ab _ _ | exact Ad _ | exact Ae _ _ | exact Ai _ | rfl | (simp; omega))) ?_ | refine A8 Y Y Y Y Y (by apply m2 <;> (first | assumption | omega | exact Ab _ _ | exact Ad _ | exact Ae _ _ | exact Ai _ | rfl | (simp; omega))) ?_ | refine A8 Y Y Y Y Y (by apply m3 <;> (first | assumption | omega | exact Ab _ _ | exact Ad _ | exact Ae _ _ | exact Ai _ | rfl | (simp; omega))) ?_ | fail)
      | refine r_q hG Y Y Y ?_); try exact kk)
    | (show AL _ _ _ _ _ _ _ _; first | refine Bh Y Y Y ?_ | (refine As ?_; first | show AW _ _ _ _ _ _ | show ∃ x', _ < _ ∧ _)) | (show AW _ _ (.seq _ _) _ _ _; refine Ah ?_; intro Q1) | (show AW _ _ (.region _ _ false) _ _ _; refine Af ?_; intro O1) | (show AW _ _ (.cond _ _ _) _ _ _; first | refine Ak Y ?_ | refine Aj Y ?_) | (show AW _ _ (.skip) _ _ _; refine Al ?_; first | show AW _ _ _ _ _ _ | show ∃ x', _ < _ ∧ _) | (show AW _ _ (.ret) _ _ _; refine Aq ?_; try dsimp only [Ap, Aa, Ao, Ac])
    | (show DL _ _ _ _ _ _ _; refine dl_d Y Y (fun K kt kf => Aw hG Y Y Y Y Y kt kf) (fun h => ?_) (fun h => ?_))
    | (show DL _ _ _ _ _ _ _; refine dl_s Y Y Y ?_) | (show DL _ _ _ _ _ _ _; refine B0 ?_; first | show AW _ _ _ _ _ _ | show ∃ x', _ < _ ∧ _) | (show AW _ _ (.region _ _ true) _ _ _; refine Bp mix (by kernel_rfl) ?_; intro O1) | fail)
    exact Bb (Ar rfl A9) (.eq (by rw [B5, q1, q2, q3]; rfl)) rfl
  have hu := or_assoc' (mayC_up q1) (mayC_up q2) (mayC_up q3)
  have p1 := mayC_le q1
  have p2 := mayC_le q2
  have p3 := mayC_le q3
  have hl1 := mk_length_le (a ++ b)
  rw [List.length_append] at hl1
  have hl2 := congrArg List.length hu
  by_cases he : (mergeK kOr a (mergeK kOr b c)).length = a.length + b.length + c.length
  · by_cases hn : a.length + b.length + c.length ≤ 16
    · repeat' (first
    | ((first | (show AL _ _ _ _ _ _ _ _; refine Ag Y ?_) | (show DL _ _ _ _ _ _ _; refine' Bt Y Y (fun K kk => ?_) ?_; try (show Go.Ts.T; rotate_left))); (first
      | (show AOp _ _ ⟨_, .move _, _, _, _, _⟩ _ _ _; refine Am hG Y Y ?_)
      | (show AOp _ _ ⟨_, .assign _, _, _, _, _⟩ _ _ _; refine A7 hG Y Y ?_)
      | (show AOp _ _ ⟨_, .call ⟨.builtin .len, _, _⟩, _, _, _, _⟩ _ _ _; first | refine Ax hG Y Y Y Y ?_ | refine Bd hG Y Y Y Y Y ?_)
      | (show AOp _ _ ⟨_, .binOp .add _ _ _ _, _, _, _, _⟩ _ _ _; first | refine Ay hG Y Y Y Y Y (by omega) ?_)
      | (show AOp _ _ ⟨_, .binOp _ _ _ _ _, _, _, _, _⟩ _ _ _; first | refine Av hG Y Y Y Y Y (by omega) ?_ | refine Au hG Y Y Y Y Y (by omega) ?_ | ((fail_if_success have := kk); refine Aw hG Y Y Y Y Y (fun h => ?_) (fun h => ?_)))
      | (show AOp _ _ ⟨_, .load _ _, _, _, _, _⟩ _ _ _; first | refine Az 0 hG Y Y Y Y ?_ | refine Az 1 hG Y Y Y Y ?_)
      | (show AOp _ _ ⟨_, .pick _ _ _, _, _, _, _⟩ _ _ _; refine Bf hG Y Y Y ?_)
      | (show AOp _ _ ⟨_, .unOp _ _ _, _, _, _, _⟩ _ _ _; refine B2 hG Y Y Y ?_)
      | (show AOp _ _ ⟨_, .box _ _, _, _, _, _⟩ _ _ _; refine B8 hG Y Y Y (fun i => ?_))
      | (show AOp _ _ ⟨_, .call ⟨.value _, _, _⟩, _, _, _, _⟩ _ _ _; first | refine A8 Y Y Y Y Y (by apply m1 <;> (first | assumption | omega | exact Ab _ _ | exact Ad _ | exact Ae _ _ | exact Ai _ | rfl | (simp; omega))) ?_ | refine A8 Y Y Y Y Y (by apply m2 <;> (first | assumption | omega | exact Ab _ _ | exact Ad _ | exact Ae _ _ | exact Ai _ | rfl | (simp; omega))) ?_ | refine A8 Y Y Y Y Y (by apply m3 <;> (first | assumption | omega | exact Ab _ _ | exact Ad _ | exact Ae _ _ | exact Ai _ | rfl | (simp; omega))) ?_ | ((fail_if_success have := kk); refine r_owns Y Y Y Y Y (by apply ref_Or <;> (first | assumption | omega | exact Ab _ _ | exact Ad _ | exact Ae _ _ | exact Ai _ | rfl | (simp; omega))) (fun k => ?_)) | (have := kk; clear this; refine A8 Y Y Y Y Y (Owns.pure (by apply ref_Or <;> (first | assumption | omega | exact Ab _ _ | exact Ad _ | exact Ae _ _ | exact Ai _ | rfl | (simp; omega)))) ?_) | fail)
      | refine r_q hG Y Y Y ?_); try exact kk)
    | (show AL _ _ _ _ _ _ _ _; first | refine Bh Y Y Y ?_ | (refine As ?_; first | show AW _ _ _ _ _ _ | show ∃ x', _ < _ ∧ _)) | (show AW _ _ (.seq _ _) _ _ _; refine Ah ?_; intro Q1) | (show AW _ _ (.region _ _ false) _ _ _; refine Af ?_; intro O1) | (show AW _ _ (.cond _ _ _) _ _ _; first | refine Ak Y ?_ | refine Aj Y ?_) | (show AW _ _ (.skip) _ _ _; refine Al ?_; first | show AW _ _ _ _ _ _ | show ∃ x', _ < _ ∧ _) | (show AW _ _ (.ret) _ _ _; refine Aq ?_; try dsimp only [Ap, Aa, Ao, Ac])
    | (show DL _ _ _ _ _ _ _; refine dl_d Y Y (fun K kt kf => Aw hG Y Y Y Y Y kt kf) (fun h => ?_) (fun h => ?_))
    | (show DL _ _ _ _ _ _ _; refine dl_s Y Y Y ?_) | (show DL _ _ _ _ _ _ _; refine B0 ?_; first | show AW _ _ _ _ _ _ | show ∃ x', _ < _ ∧ _) | (show AW _ _ (.region _ _ true) _ _ _; refine Bp mix (by kernel_rfl) ?_; intro O1) | fail)
      exact Bb (Ar rfl A9) (.eq (by rw [show B5 a b c = true by unfold B5; simp only [q1, q2, q3, decide_eq_true hn, decide_eq_true he]; rfl]; rfl)) rfl
    · repeat' (first
    | ((first | (show AL _ _ _ _ _ _ _ _; refine Ag Y ?_) | (show DL _ _ _ _ _ _ _; refine' Bt Y Y (fun K kk => ?_) ?_; try (show Go.Ts.T; rotate_left))); (first
      | (show AOp _ _ ⟨_, .move _, _, _, _, _⟩ _ _ _; refine Am hG Y Y ?_)
      | (show AOp _ _ ⟨_, .assign _, _, _, _, _⟩ _ _ _; refine A7 hG Y Y ?_)
      | (show AOp _ _ ⟨_, .call ⟨.builtin .len, _, _⟩, _, _, _, _⟩ _ _ _; first | refine Ax hG Y Y Y Y ?_ | refine Bd hG Y Y Y Y Y ?_)
      | (show AOp _ _ ⟨_, .binOp .add _ _ _ _, _, _, _, _⟩ _ _ _; first | refine Ay hG Y Y Y Y Y (by omega) ?_)
      | (show AOp _ _ ⟨_, .binOp _ _ _ _ _, _, _, _, _⟩ _ _ _; first | refine Av hG Y Y Y Y Y (by omega) ?_ | refine Au hG Y Y Y Y Y (by omega) ?_ | ((fail_if_success have := kk); refine Aw hG Y Y Y Y Y (fun h => ?_) (fun h => ?_)))
      | (show AOp _ _ ⟨_, .load _ _, _, _, _, _⟩ _ _ _; first | refine Az 0 hG Y Y Y Y ?_ | refine Az 1 hG Y Y Y Y ?_)
      | (show AOp _ _ ⟨_, .pick _ _ _, _, _, _, _⟩ _ _ _; refine Bf hG Y Y Y ?_)
      | (show AOp _ _ ⟨_, .unOp _ _ _, _, _, _, _⟩ _ _ _; refine B2 hG Y Y Y ?_)
      | (show AOp _ _ ⟨_, .box _ _, _, _, _, _⟩ _ _ _; refine B8 hG Y Y Y (fun i => ?_))
      | (show AOp _ _ ⟨_, .call ⟨.value _, _, _⟩, _, _, _, _⟩ _ _ _; first | refine A8 Y Y Y Y Y (by apply m1 <;> (first | assumption | omega | exact Ab _ _ | exact Ad _ | exact Ae _ _ | exact Ai _ | rfl | (simp; omega))) ?_ | refine A8 Y Y Y Y Y (by apply m2 <;> (first | assumption | omega | exact Ab _ _ | exact Ad _ | exact Ae _ _ | exact Ai _ | rfl | (simp; omega))) ?_ | refine A8 Y Y Y Y Y (by apply m3 <;> (first | assumption | omega | exact Ab _ _ | exact Ad _ | exact Ae _ _ | exact Ai _ | rfl | (simp; omega))) ?_ | ((fail_if_success have := kk); refine r_owns Y Y Y Y Y (by apply ref_Or <;> (first | assumption | omega | exact Ab _ _ | exact Ad _ | exact Ae _ _ | exact Ai _ | rfl | (simp; omega))) (fun k => ?_)) | (have := kk; clear this; refine A8 Y Y Y Y Y (Owns.pure (by apply ref_Or <;> (first | assumption | omega | exact Ab _ _ | exact Ad _ | exact Ae _ _ | exact Ai _ | rfl | (simp; omega)))) ?_) | fail)
      | refine r_q hG Y Y Y ?_); try exact kk)
    | (show AL _ _ _ _ _ _ _ _; first | refine Bh Y Y Y ?_ | (refine As ?_; first | show AW _ _ _ _ _ _ | show ∃ x', _ < _ ∧ _)) | (show AW _ _ (.seq _ _) _ _ _; refine Ah ?_; intro Q1) | (show AW _ _ (.region _ _ false) _ _ _; refine Af ?_; intro O1) | (show AW _ _ (.cond _ _ _) _ _ _; first | refine Ak Y ?_ | refine Aj Y ?_) | (show AW _ _ (.skip) _ _ _; refine Al ?_; first | show AW _ _ _ _ _ _ | show ∃ x', _ < _ ∧ _) | (show AW _ _ (.ret) _ _ _; refine Aq ?_; try dsimp only [Ap, Aa, Ao, Ac])
    | (show DL _ _ _ _ _ _ _; refine dl_d Y Y (fun K kt kf => Aw hG Y Y Y Y Y kt kf) (fun h => ?_) (fun h => ?_))
    | (show DL _ _ _ _ _ _ _; refine dl_s Y Y Y ?_) | (show DL _ _ _ _ _ _ _; refine B0 ?_; first | show AW _ _ _ _ _ _ | show ∃ x', _ < _ ∧ _) | (show AW _ _ (.region _ _ true) _ _ _; refine Bp mix (by kernel_rfl) ?_; intro O1) | fail)
      exact Bb (Ar rfl A9) (.eq (by rw [show B5 a b c = false by unfold B5; simp only [q1, q2, q3, decide_eq_false hn]; rfl]; rfl)) rfl
  · repeat' (first
    | ((first | (show AL _ _ _ _ _ _ _ _; refine Ag Y ?_) | (show DL _ _ _ _ _ _ _; refine' Bt Y Y (fun K kk => ?_) ?_; try (show Go.Ts.T; rotate_left))); (first
      | (show AOp _ _ ⟨_, .move _, _, _, _, _⟩ _ _ _; refine Am hG Y Y ?_)
      | (show AOp _ _ ⟨_, .assign _, _, _, _, _⟩ _ _ _; refine A7 hG Y Y ?_)
      | (show AOp _ _ ⟨_, .call ⟨.builtin .len, _, _⟩, _, _, _, _⟩ _ _ _; first | refine Ax hG Y Y Y Y ?_ | refine Bd hG Y Y Y Y Y ?_)
      | (show AOp _ _ ⟨_, .binOp .add _ _ _ _, _, _, _, _⟩ _ _ _; first | refine Ay hG Y Y Y Y Y (by omega) ?_)
      | (show AOp _ _ ⟨_, .binOp _ _ _ _ _, _, _, _, _⟩ _ _ _; first | refine Av hG Y Y Y Y Y (by omega) ?_ | refine Au hG Y Y Y Y Y (by omega) ?_ | ((fail_if_success have := kk); refine Aw hG Y Y Y Y Y (fun h => ?_) (fun h => ?_)))
      | (show AOp _ _ ⟨_, .load _ _, _, _, _, _⟩ _ _ _; first | refine Az 0 hG Y Y Y Y ?_ | refine Az 1 hG Y Y Y Y ?_)
      | (show AOp _ _ ⟨_, .pick _ _ _, _, _, _, _⟩ _ _ _; refine Bf hG Y Y Y ?_)
      | (show AOp _ _ ⟨_, .unOp _ _ _, _, _, _, _⟩ _ _ _; refine B2 hG Y Y Y ?_)
      | (show AOp _ _ ⟨_, .box _ _, _, _, _, _⟩ _ _ _; refine B8 hG Y Y Y (fun i => ?_))
      | (show AOp _ _ ⟨_, .call ⟨.value _, _, _⟩, _, _, _, _⟩ _ _ _; first | refine A8 Y Y Y Y Y (by apply m1 <;> (first | assumption | omega | exact Ab _ _ | exact Ad _ | exact Ae _ _ | exact Ai _ | rfl | (simp; omega))) ?_ | refine A8 Y Y Y Y Y (by apply m2 <;> (first | assumption | omega | exact Ab _ _ | exact Ad _ | exact Ae _ _ | exact Ai _ | rfl | (simp; omega))) ?_ | refine A8 Y Y Y Y Y (by apply m3 <;> (first | assumption | omega | exact Ab _ _ | exact Ad _ | exact Ae _ _ | exact Ai _ | rfl | (simp; omega))) ?_ | ((fail_if_success have := kk); refine r_owns Y Y Y Y Y (by apply ref_Or <;> (first | assumption | omega | exact Ab _ _ | exact Ad _ | exact Ae _ _ | exact Ai _ | rfl | (simp; omega))) (fun k => ?_)) | (have := kk; clear this; refine A8 Y Y Y Y Y (Owns.pure (by apply ref_Or <;> (first | assumption | omega | exact Ab _ _ | exact Ad _ | exact Ae _ _ | exact Ai _ | rfl | (simp; omega)))) ?_) | fail)
      | refine r_q hG Y Y Y ?_); try exact kk)
    | (show AL _ _ _ _ _ _ _ _; first | refine Bh Y Y Y ?_ | (refine As ?_; first | show AW _ _ _ _ _ _ | show ∃ x', _ < _ ∧ _)) | (show AW _ _ (.seq _ _) _ _ _; refine Ah ?_; intro Q1) | (show AW _ _ (.region _ _ false) _ _ _; refine Af ?_; intro O1) | (show AW _ _ (.cond _ _ _) _ _ _; first | refine Ak Y ?_ | refine Aj Y ?_) | (show AW _ _ (.skip) _ _ _; refine Al ?_; first | show AW _ _ _ _ _ _ | show ∃ x', _ < _ ∧ _) | (show AW _ _ (.ret) _ _ _; refine Aq ?_; try dsimp only [Ap, Aa, Ao, Ac])
    | (show DL _ _ _ _ _ _ _; refine dl_d Y Y (fun K kt kf => Aw hG Y Y Y Y Y kt kf) (fun h => ?_) (fun h => ?_))
    | (show DL _ _ _ _ _ _ _; refine dl_s Y Y Y ?_) | (show DL _ _ _ _ _ _ _; refine B0 ?_; first | show AW _ _ _ _ _ _ | show ∃ x', _ < _ ∧ _) | (show AW _ _ (.region _ _ true) _ _ _; refine Bp mix (by kernel_rfl) ?_; intro O1) | fail)
    exact Bb (Ar rfl A9) (.eq (by rw [B5, decide_eq_false he, Bool.and_false]; rfl)) rfl

def putS (b : List UInt8) (x y z : List UInt16) : List UInt8 := putC (putC (putC b x) y) z
theorem putC_length (b : List UInt8) (a : List UInt16) : (putC b a).length ≤ b.length + 8 + 2 * a.length := by
  have := putI_le a.length 1
  rw [putC, List.length_append, List.length_append, flat2_length]; omega
theorem scode_Put {t x y z : T} {s : List UInt8} {a b c : List UInt16} (ht : bytesT t = some s) (hx : catsT x = some a) (hy : catsT y = some b) (hz : catsT z = some c) (hs : s.length ≤ 4293000000) (ha : a.length ≤ 70000) (hb : b.length ≤ 70000) (hc : c.length ≤ 70000) :
    Owns Try.prog 30 [t, .agg [x, y, z]] 1 ((putS s a b c).map bT) := by
  refine Owns.weak (us := [sT s, setsV a b c]) ?_ (wk2 (bytesT_wk ht) (sets_wk hx hy hz))
  intro off
  refine Bs (N := 15) (rs := [.tmp 4]) hG Try.func30 rfl rfl rfl rfl rfl ?_
  have l1 := putC_length s a
  have l2 := putC_length (putC s a) b
  repeat' (first
    | ((first | (show AL _ _ _ _ _ _ _ _; refine Ag Y ?_) | (show DL _ _ _ _ _ _ _; refine' Bt Y Y (fun K kk => ?_) ?_; try (show Go.Ts.T; rotate_left))); (first
      | (show AOp _ _ ⟨_, .move _, _, _, _, _⟩ _ _ _; refine Am hG Y Y ?_)
      | (show AOp _ _ ⟨_, .assign _, _, _, _, _⟩ _ _ _; refine A7 hG Y Y ?_)
      | (show AOp _ _ ⟨_, .load _ _, _, _, _, _⟩ _ _ _; first | refine Az 0 hG Y Y Y Y ?_ | refine Az 1 hG Y Y Y Y ?_)
      | (show AOp _ _ ⟨_, .box _ _, _, _, _, _⟩ _ _ _; refine B8 hG Y Y Y (fun i => ?_))
      | refine r_q hG Y Y Y ?_); try exact kk)
    | (show AL _ _ _ _ _ _ _ _; first | refine Bh Y Y Y ?_ | (refine As ?_; first | show AW _ _ _ _ _ _ | show ∃ x', _ < _ ∧ _)) | (show AW _ _ (.seq _ _) _ _ _; refine Ah ?_; intro Q1) | (show AW _ _ (.region _ _ false) _ _ _; refine Af ?_; intro O1) | (show AW _ _ (.ret) _ _ _; refine Aq ?_; try dsimp only [Ap, Aa, Ao, Ac])
    | (show DL _ _ _ _ _ _ _; refine dl_d Y Y (fun K kt kf => Aw hG Y Y Y Y Y kt kf) (fun h => ?_) (fun h => ?_))
    | (show DL _ _ _ _ _ _ _; refine dl_s Y Y Y ?_) | (show DL _ _ _ _ _ _ _; refine B0 ?_; first | show AW _ _ _ _ _ _ | show ∃ x', _ < _ ∧ _) | (show AW _ _ (.region _ _ true) _ _ _; (fail_if_success show AW _ _ (.region 1 _ _) _ _ _); refine Bp mix (by kernel_rfl) ?_; intro O1) | fail)
  refine aw_drawE' (m := 10) [3, 6, 9] (fun σ => ∃ R, σ = ⟨[(i, .cells [cT a, cT b, cT c])], R, off, none⟩) mix rfl (by repeat (first | exact Sp.zero _ | apply Sp.succ)) ?_; intro O1 F1 Z1 Q2
  repeat' (first
    | (refine' dq_cons Y Y Y (fun σ hσ K kk => ?_) ?_; (try (show Go.Ts.T; rotate_left)); (obtain ⟨R, rfl⟩ := hσ); (first
      | (show AOp _ _ ⟨_, .move _, _, _, _, _⟩ _ _ _; refine Am hG Y Y ?_)
      | (show AOp _ _ ⟨_, .assign _, _, _, _, _⟩ _ _ _; refine A7 hG Y Y ?_)
      | (show AOp _ _ ⟨_, .load _ _, _, _, _, _⟩ _ _ _; first | refine Az 0 hG Y Y Y Y ?_ | refine Az 1 hG Y Y Y Y ?_)
      | (show AOp _ _ ⟨_, .box _ _, _, _, _, _⟩ _ _ _; refine B8 hG Y Y Y (fun i => ?_))
      | (show AOp _ _ ⟨_, .call ⟨.value _, _, _⟩, _, _, _, _⟩ _ _ _; first | ((fail_if_success have := kk); refine r_owns Y Y Y Y Y (by apply cats_Put <;> (first | assumption | omega | exact Ab _ _ | exact Ad _ | exact Ae _ _ | exact Ai _ | rfl | (simp; omega))) (fun k => ?_)) | (have := kk; clear this; refine A8 Y Y Y Y Y (Owns.pure (by apply cats_Put <;> (first | assumption | omega | exact Ab _ _ | exact Ad _ | exact Ae _ _ | exact Ai _ | rfl | (simp; omega)))) ?_) | fail)
      | refine r_q hG Y Y Y ?_); exact kk)
    | refine dq_d Y Y Y (fun σ hσ K kt kf => by obtain ⟨R, rfl⟩ := hσ; exact Aw hG Y Y Y Y Y kt kf) (fun h => ?_) (fun h => ?_)
    | refine dq_d Y Y Y (fun σ hσ K kt kf => by obtain ⟨R, rfl⟩ := hσ; exact r_str hG Y Y Y Y kt kf) (fun h => ?_) (fun h => ?_)
    | refine dq_s Y Y Y Y ?_ | refine dq_e Y ?_ | (refine dq_nil ?_; show EL _ _ _ _ _ _ _ _ _) | refine el_s ⟨_, Y⟩ Y Y Y Y ?_
    | ((first | refine el_cons ⟨_, Y⟩ Y Y Y (fun K ke => ?_) | refine el_consN ⟨_, Y⟩ Y Y Y (fun K ke => ?_)); (first
      | (show AOp _ _ ⟨_, .move _, _, _, _, _⟩ _ _ _; refine Am hG Y Y ?_)
      | (show AOp _ _ ⟨_, .assign _, _, _, _, _⟩ _ _ _; refine A7 hG Y Y ?_)
      | (show AOp _ _ ⟨_, .load _ _, _, _, _, _⟩ _ _ _; first | refine Az 0 hG Y Y Y Y ?_ | refine Az 1 hG Y Y Y Y ?_)
      | (show AOp _ _ ⟨_, .box _ _, _, _, _, _⟩ _ _ _; refine B8 hG Y Y Y (fun i => ?_))
      | (show AOp _ _ ⟨_, .call ⟨.value _, _, _⟩, _, _, _, _⟩ _ _ _; first | ((fail_if_success have := kk); refine r_owns Y Y Y Y Y (by apply cats_Put <;> (first | assumption | omega | exact Ab _ _ | exact Ad _ | exact Ae _ _ | exact Ai _ | rfl | (simp; omega))) (fun k => ?_)) | (have := kk; clear this; refine A8 Y Y Y Y Y (Owns.pure (by apply cats_Put <;> (first | assumption | omega | exact Ab _ _ | exact Ad _ | exact Ae _ _ | exact Ai _ | rfl | (simp; omega)))) ?_) | fail)
      | refine r_q hG Y Y Y ?_); refine ke _ _ ?_)
    | (refine el_nil ⟨_, Y⟩ ?_; show AL _ _ _ _ _ _ _ _) | fail)
  repeat' (first
    | ((first | (show AL _ _ _ _ _ _ _ _; refine Ag Y ?_) | (show DL _ _ _ _ _ _ _; refine' Bt Y Y (fun K kk => ?_) ?_; try (show Go.Ts.T; rotate_left))); (first
      | (show AOp _ _ ⟨_, .move _, _, _, _, _⟩ _ _ _; refine Am hG Y Y ?_)
      | (show AOp _ _ ⟨_, .assign _, _, _, _, _⟩ _ _ _; refine A7 hG Y Y ?_)
      | (show AOp _ _ ⟨_, .load _ _, _, _, _, _⟩ _ _ _; first | refine Az 0 hG Y Y Y Y ?_ | refine Az 1 hG Y Y Y Y ?_)
      | (show AOp _ _ ⟨_, .box _ _, _, _, _, _⟩ _ _ _; refine B8 hG Y Y Y (fun i => ?_))
      | refine r_q hG Y Y Y ?_); try exact kk)
    | (show AL _ _ _ _ _ _ _ _; first | refine Bh Y Y Y ?_ | (refine As ?_; first | show AW _ _ _ _ _ _ | show ∃ x', _ < _ ∧ _)) | (show AW _ _ (.seq _ _) _ _ _; refine Ah ?_; intro Q1) | (show AW _ _ (.region _ _ false) _ _ _; refine Af ?_; intro O1) | (show AW _ _ (.ret) _ _ _; refine Aq ?_; try dsimp only [Ap, Aa, Ao, Ac])
    | (show DL _ _ _ _ _ _ _; refine dl_d Y Y (fun K kt kf => Aw hG Y Y Y Y Y kt kf) (fun h => ?_) (fun h => ?_))
    | (show DL _ _ _ _ _ _ _; refine dl_s Y Y Y ?_) | (show DL _ _ _ _ _ _ _; refine B0 ?_; first | show AW _ _ _ _ _ _ | show ∃ x', _ < _ ∧ _) | (show AW _ _ (.region _ _ true) _ _ _; refine Bp mix (by kernel_rfl) ?_; intro O1) | fail)
  exact ret_owns 0 (Ar rfl A9) rfl rfl rfl
end Go.Proofs.Ytholeicgmkjadaa
namespace Go.Proofs.Ytholeicgmkjadaa
open Go.Ts Go.Sets
attribute [local irreducible] Go.Ts.AW Go.Ts.AOps Go.Ts.AL Go.Ts.AOp Go.Ts.ACalls Go.Ts.DL Go.Ts.DQ Go.Ts.EL
structure TakenS where
  a : List UInt16
  b : List UInt16
  c : List UInt16
  n : Nat
  e : Int
def takeS (s : List UInt8) : TakenS :=
  if (Bw s).2.2 ≠ 0 then ⟨[], [], [], 0, (Bw s).2.2⟩
  else if (Bw (s.drop (Bw s).2.1)).2.2 ≠ 0 then ⟨[], [], [], 0, (Bw (s.drop (Bw s).2.1)).2.2⟩
  else if (Bw (s.drop ((Bw s).2.1 + (Bw (s.drop (Bw s).2.1)).2.1))).2.2 ≠ 0 then ⟨[], [], [], 0, (Bw (s.drop ((Bw s).2.1 + (Bw (s.drop (Bw s).2.1)).2.1))).2.2⟩
  else if B5 (Bw s).1 (Bw (s.drop (Bw s).2.1)).1 (Bw (s.drop ((Bw s).2.1 + (Bw (s.drop (Bw s).2.1)).2.1))).1 then
    ⟨(Bw s).1, (Bw (s.drop (Bw s).2.1)).1, (Bw (s.drop ((Bw s).2.1 + (Bw (s.drop (Bw s).2.1)).2.1))).1,
      (Bw s).2.1 + (Bw (s.drop (Bw s).2.1)).2.1 + (Bw (s.drop ((Bw s).2.1 + (Bw (s.drop (Bw s).2.1)).2.1))).2.1, 0⟩
  else ⟨[], [], [], 0, 2⟩
theorem takeS_1 {s : List UInt8} {a : List UInt16} {n : Nat} {e : Int} (h1 : Bw s = (a, n, e)) (he : e ≠ 0) : takeS s = ⟨[], [], [], 0, e⟩ := by
  unfold takeS; rw [h1]; rw [if_pos he]
theorem takeS_2 {s : List UInt8} {a a2 : List UInt16} {n n2 : Nat} {e : Int} (h1 : Bw s = (a, n, 0)) (h2 : Bw (s.drop n) = (a2, n2, e)) (he : e ≠ 0) : takeS s = ⟨[], [], [], 0, e⟩ := by
  unfold takeS; rw [h1]; dsimp only; rw [h2, if_neg (by simp), if_pos he]
theorem takeS_3 {s : List UInt8} {a a2 a3 : List UInt16} {n n2 n3 : Nat} {e : Int} (h1 : Bw s = (a, n, 0)) (h2 : Bw (s.drop n) = (a2, n2, 0)) (h3 : Bw (s.drop (n + n2)) = (a3, n3, e)) (he : e ≠ 0) : takeS s = ⟨[], [], [], 0, e⟩ := by
  unfold takeS; rw [h1]; dsimp only; rw [h2]; dsimp only; rw [h3, if_neg (by simp), if_neg (by simp), if_pos he]
theorem takeS_4 {s : List UInt8} {a a2 a3 : List UInt16} {n n2 n3 : Nat} (h1 : Bw s = (a, n, 0)) (h2 : Bw (s.drop n) = (a2, n2, 0)) (h3 : Bw (s.drop (n + n2)) = (a3, n3, 0)) : takeS s = if B5 a a2 a3 then ⟨a, a2, a3, n + n2 + n3, 0⟩ else ⟨[], [], [], 0, 2⟩ := by
  unfold takeS; rw [h1]; dsimp only; rw [h2]; dsimp only; rw [h3, if_neg (by simp), if_neg (by simp), if_neg (by simp)]
theorem takeC_used {s : List UInt8} {a : List UInt16} {n : Nat} (h : Bw s = (a, n, 0)) : n ≤ s.length ∧ a.length ≤ 16 ∧ 1 ≤ n := by
  unfold Bw at h
  split at h
  · injection h with h1 h2; injection h2 with h3 h4; cases h4
  · split at h
    · injection h with h1 h2; injection h2 with h3 h4; cases h4
    · split at h
      · rename_i q1 q2 q3
        injection h with h1 h2; injection h2 with h3 h4; subst h3; subst h1
        refine ⟨by omega, ?_, by omega⟩
        unfold mayC at q3
        rw [Bool.and_eq_true, decide_eq_true_eq] at q3
        exact q3.1
      · injection h with h1 h2; injection h2 with h3 h4; cases h4
def tsT (r : TakenS) : T := .tup [setsV r.a r.b r.c, .int .i64 r.n, .int .i64 r.e]
theorem cats_Take_is {x : T} {s : List UInt8} {a : List UInt16} {n : Nat} {e : Int} (hx : bytesT x = some s) (hl : s.length ≤ 4294967296) (h : Bw s = (a, n, e)) : Pure Try.prog 21 [x] (.tup [cT a, .int .i64 n, .int .i64 e]) := by
  have := cats_Take hx hl; rw [h] at this; exact this
theorem sets_nil : Wk (.agg [.nilsl, .nilsl, .nilsl]) (setsV [] [] []) := Wk.aggL (wk3 (.nil 1) (.nil 1) (.nil 1))

structure STX (s : List UInt8) where
  j : Nat
  i : Nat
  a : List UInt16
  b : List UInt16
  c : List UInt16
  n : Nat
  n1 : Nat
  n2 : Nat
  hj : j ≤ 3
  hn : n ≤ s.length
  h1 : 1 ≤ j → Bw s = (a, n1, 0)
  h2 : 2 ≤ j → Bw (s.drop n1) = (b, n2, 0)
  h3 : 3 ≤ j → ∃ n3, Bw (s.drop (n1 + n2)) = (c, n3, 0) ∧ n = n1 + n2 + n3
  e0 : j = 0 → n = 0
  e1 : j = 1 → n = n1
  e2 : j = 2 → n = n1 + n2
set_option maxHeartbeats 1000000 in
theorem scode_Take {x : T} {s : List UInt8} (hx : bytesT x = some s) (hl : s.length ≤ 4294967296) : Pure Try.prog 66 [x] (tsT (takeS s)) := by
  refine Pure.weak (us := [sT s]) ?_ (wk1 (bytesT_wk hx))
  intro off
  refine Bs (N := 44) (rs := [.cell 2 30, .tmp 3, .tmp 4]) hG Try.func66 rfl rfl rfl rfl rfl ?_
  repeat' (first
    | ((show AL _ _ _ _ _ _ _ _; refine Ag Y ?_); (first
      | (show AOp _ _ ⟨_, .move _, _, _, _, _⟩ _ _ _; refine Am hG Y Y ?_)
      | (show AOp _ _ ⟨_, .assign _, _, _, _, _⟩ _ _ _; refine A7 hG Y Y ?_)
      | (show AOp _ _ ⟨_, .call ⟨.builtin .len, _, _⟩, _, _, _, _⟩ _ _ _; first | refine Ax hG Y Y Y Y ?_ | refine Bd hG Y Y Y Y Y ?_)
      | (show AOp _ _ ⟨_, .binOp .add _ _ _ _, _, _, _, _⟩ _ _ _; first | refine Ay hG Y Y Y Y Y (by omega) ?_)
      | (show AOp _ _ ⟨_, .binOp _ _ _ _ _, _, _, _, _⟩ _ _ _; first | refine Av hG Y Y Y Y Y (by omega) ?_ | refine Au hG Y Y Y Y Y (by omega) ?_ | (refine Aw hG Y Y Y Y Y (fun h => ?_) (fun h => ?_)))
      | (show AOp _ _ ⟨_, .load _ _, _, _, _, _⟩ _ _ _; first | refine Bl hG Y Y Y ?_ | refine Az 0 hG Y Y Y Y ?_ | refine Az 1 hG Y Y Y Y ?_)
      | (show AOp _ _ ⟨_, .indexAddr _ _ _, _, _, _, _⟩ _ _ _; first | refine Ce hG Y Y Y Y Y Y Y ?_ | refine Bm hG Y Y Y Y Y Y Y (by omega) ?_ | refine Bk hG Y Y Y Y Y Y Y (by omega) ?_ | refine Bx hG Y Y ?_)
      | (show AOp _ _ ⟨_, .slice _ _ _ _ _, _, _, _, _⟩ _ _ _; first | refine Be hG Y Y Y Y Y Y Y (by omega) ?_ | refine Bg hG Y Y Y Y Y Y Y (by omega) ?_ | refine r_sl hG Y Y ?_)
      | (show AOp _ _ ⟨_, .unOp _ _ _, _, _, _, _⟩ _ _ _; refine B2 hG Y Y Y ?_)
      | (show AOp _ _ ⟨_, .buildSlice _ _ _, _, _, _, _⟩ _ _ _; first | refine r_mk (sz := 1) hG Y Y Y Y Y Y Y ?_)
      | (show AOp _ _ ⟨_, .build _ _, _, _, _, _⟩ _ _ _; refine r_build hG Y Y Y Y Y ?_)
      | (show AOp _ _ ⟨_, .alloc _, _, _, _, _⟩ _ _ _; refine Ch hG Y Y (fun i => ?_))
      | (show AOp _ _ ⟨_, .store _ _ _, _, _, _, _⟩ _ _ _; first | refine Bn 0 hG Y Y Y Y Y Y Y ?_ | refine Bn 1 hG Y Y Y Y Y Y Y ?_)
      | refine r_q hG Y Y Y ?_))
    | (show AL _ _ _ _ _ _ _ _; first | refine Bh Y Y Y ?_ | (refine As ?_; first | show AW _ _ _ _ _ _ | show ∃ x', _ < _ ∧ _)) | (show AW _ _ (.seq _ _) _ _ _; refine Ah ?_; intro Q1) | (show AW _ _ (.region _ _ false) _ _ _; refine Af ?_; intro O1) | (show AW _ _ (.cond _ _ _) _ _ _; first | refine Ak Y ?_ | refine Aj Y ?_) | (show AW _ _ (.skip) _ _ _; refine Al ?_; first | show AW _ _ _ _ _ _ | show ∃ x', _ < _ ∧ _) | (show AW _ _ (.goto _) _ _ _; refine Bv ?_; try dsimp only [Ap, Aa, Ao, Ac]) | (show AW _ _ (.ret) _ _ _; refine Aq ?_; try dsimp only [Ap, Aa, Ao, Ac]) | fail)
  refine aw_scope' 0 rfl (X := STX s)
    (fun x => [(0, sT s), (2, .ptr x.i 0), (3, .int .i64 x.n), (5, match x.j with
      | 0 => .sl 1 .no [.ptr x.i 0, .ptr x.i 1, .ptr x.i 2]
      | 1 => .sl 1 .no [.ptr x.i 1, .ptr x.i 2]
      | 2 => .sl 1 .no [.ptr x.i 2]
      | _ => .sl 1 .no [])])
    (fun x => ⟨[(x.i, .cells (match x.j with
      | 0 => [.nilsl, .nilsl, .nilsl]
      | 1 => [cT x.a, .nilsl, .nilsl]
      | 2 => [cT x.a, cT x.b, .nilsl]
      | _ => [cT x.a, cT x.b, cT x.c]))], [], off, none⟩) (fun x => 3 - x.j) ?_ ?_
  · rintro ⟨j, i, a, b, c, n, n1, n2, hj, hn, g1, g2, g3, e0, e1, e2⟩
    have l3 : ([.ptr i 0, .ptr i 1, .ptr i 2] : List T).length = 3 := rfl
    have l2 : ([.ptr i 1, .ptr i 2] : List T).length = 2 := rfl
    have l1 : ([.ptr i 2] : List T).length = 1 := rfl
    have l0 : ([] : List T).length = 0 := rfl
    have hdl : (s.drop ((n : Nat) : Int).toNat).length ≤ 4294967296 := by rw [List.length_drop]; omega
    have hdn : (s.drop n).length = s.length - n := List.length_drop
    rcases (by omega : j = 0 ∨ j = 1 ∨ j = 2 ∨ j = 3) with rfl | rfl | rfl | rfl
    · obtain rfl := e0 rfl
      dsimp only
      clear g1 g2 g3 e0 e1 e2
      rcases ht : Bw s with ⟨a', n', e⟩
      have hc := cats_Take_is (x := sT (s.drop 0)) (Ad _) (by omega) (by rw [List.drop_zero, ht])
      by_cases he : e = 0
      · subst he
        have hu := takeC_used ht
        repeat' (first
    | ((show AL _ _ _ _ _ _ _ _; refine Ag Y ?_); (first
      | (show AOp _ _ ⟨_, .move _, _, _, _, _⟩ _ _ _; refine Am hG Y Y ?_)
      | (show AOp _ _ ⟨_, .assign _, _, _, _, _⟩ _ _ _; refine A7 hG Y Y ?_)
      | (show AOp _ _ ⟨_, .call ⟨.builtin .len, _, _⟩, _, _, _, _⟩ _ _ _; first | refine Ax hG Y Y Y Y ?_ | refine Bd hG Y Y Y Y Y ?_)
      | (show AOp _ _ ⟨_, .binOp .add _ _ _ _, _, _, _, _⟩ _ _ _; first | refine Ay hG Y Y Y Y Y (by omega) ?_)
      | (show AOp _ _ ⟨_, .binOp _ _ _ _ _, _, _, _, _⟩ _ _ _; first | refine Av hG Y Y Y Y Y (by omega) ?_ | refine Au hG Y Y Y Y Y (by omega) ?_ | (refine Aw hG Y Y Y Y Y (fun h => ?_) (fun h => ?_)))
      | (show AOp _ _ ⟨_, .load _ _, _, _, _, _⟩ _ _ _; first | refine Bl hG Y Y Y ?_ | refine Az 0 hG Y Y Y Y ?_ | refine Az 1 hG Y Y Y Y ?_)
      | (show AOp _ _ ⟨_, .indexAddr _ _ _, _, _, _, _⟩ _ _ _; first | refine Ce hG Y Y Y Y Y Y Y ?_ | refine Bm hG Y Y Y Y Y Y Y (by omega) ?_ | refine Bk hG Y Y Y Y Y Y Y (by omega) ?_ | refine Bx hG Y Y ?_)
      | (show AOp _ _ ⟨_, .slice _ _ _ _ _, _, _, _, _⟩ _ _ _; first | refine Be hG Y Y Y Y Y Y Y (by omega) ?_ | refine Bg hG Y Y Y Y Y Y Y (by omega) ?_ | refine r_sl hG Y Y ?_)
      | (show AOp _ _ ⟨_, .unOp _ _ _, _, _, _, _⟩ _ _ _; refine B2 hG Y Y Y ?_)
      | (show AOp _ _ ⟨_, .buildSlice _ _ _, _, _, _, _⟩ _ _ _; first | refine r_mk (sz := 1) hG Y Y Y Y Y Y Y ?_)
      | (show AOp _ _ ⟨_, .build _ _, _, _, _, _⟩ _ _ _; refine r_build hG Y Y Y Y Y ?_)
      | (show AOp _ _ ⟨_, .alloc _, _, _, _, _⟩ _ _ _; refine Ch hG Y Y (fun i => ?_))
      | (show AOp _ _ ⟨_, .store _ _ _, _, _, _, _⟩ _ _ _; first | refine Bn 0 hG Y Y Y Y Y Y Y ?_ | refine Bn 1 hG Y Y Y Y Y Y Y ?_)
      | (show AOp _ _ ⟨_, .call ⟨.value _, _, _⟩, _, _, _, _⟩ _ _ _; first | refine A8 Y Y Y Y Y (by apply hc <;> (first | assumption | omega | exact Ab _ _ | exact Ad _ | exact Ae _ _ | exact Ai _ | rfl | (simp; omega))) ?_ | fail)
      | refine r_q hG Y Y Y ?_))
    | (show AL _ _ _ _ _ _ _ _; first | refine Bh Y Y Y ?_ | (refine As ?_; first | show AW _ _ _ _ _ _ | show ∃ x', _ < _ ∧ _)) | (show AW _ _ (.seq _ _) _ _ _; refine Ah ?_; intro Q1) | (show AW _ _ (.region _ _ false) _ _ _; refine Af ?_; intro O1) | (show AW _ _ (.cond _ _ _) _ _ _; first | refine Ak Y ?_ | refine Aj Y ?_) | (show AW _ _ (.skip) _ _ _; refine Al ?_; first | show AW _ _ _ _ _ _ | show ∃ x', _ < _ ∧ _) | (show AW _ _ (.goto _) _ _ _; refine Bv ?_; try dsimp only [Ap, Aa, Ao, Ac]) | (show AW _ _ (.ret) _ _ _; refine Aq ?_; try dsimp only [Ap, Aa, Ao, Ac]) | fail)
        refine ⟨rfl, ⟨1, i, a', [], [], n', n', 0, by omega, by omega, fun _ => ht, fun h => by omega, fun h => by omega, fun h => by omega, fun _ => rfl, fun h => by omega⟩, by dsimp only; omega, ?_, .refl _⟩
        exact .cons rfl (.cons rfl (.consW rfl (.int (by simp)) (.cons rfl (.nil _))))
      · repeat' (first
    | ((show AL _ _ _ _ _ _ _ _; refine Ag Y ?_); (first
      | (show AOp _ _ ⟨_, .move _, _, _, _, _⟩ _ _ _; refine Am hG Y Y ?_)
      | (show AOp _ _ ⟨_, .assign _, _, _, _, _⟩ _ _ _; refine A7 hG Y Y ?_)
      | (show AOp _ _ ⟨_, .call ⟨.builtin .len, _, _⟩, _, _, _, _⟩ _ _ _; first | refine Ax hG Y Y Y Y ?_ | refine Bd hG Y Y Y Y Y ?_)
      | (show AOp _ _ ⟨_, .binOp .add _ _ _ _, _, _, _, _⟩ _ _ _; first | refine Ay hG Y Y Y Y Y (by omega) ?_)
      | (show AOp _ _ ⟨_, .binOp _ _ _ _ _, _, _, _, _⟩ _ _ _; first | refine Av hG Y Y Y Y Y (by omega) ?_ | refine Au hG Y Y Y Y Y (by omega) ?_ | (refine Aw hG Y Y Y Y Y (fun h => ?_) (fun h => ?_)))
      | (show AOp _ _ ⟨_, .load _ _, _, _, _, _⟩ _ _ _; first | refine Bl hG Y Y Y ?_ | refine Az 0 hG Y Y Y Y ?_ | refine Az 1 hG Y Y Y Y ?_)
      | (show AOp _ _ ⟨_, .indexAddr _ _ _, _, _, _, _⟩ _ _ _; first | refine Ce hG Y Y Y Y Y Y Y ?_ | refine Bm hG Y Y Y Y Y Y Y (by omega) ?_ | refine Bk hG Y Y Y Y Y Y Y (by omega) ?_ | refine Bx hG Y Y ?_)
      | (show AOp _ _ ⟨_, .slice _ _ _ _ _, _, _, _, _⟩ _ _ _; first | refine Be hG Y Y Y Y Y Y Y (by omega) ?_ | refine Bg hG Y Y Y Y Y Y Y (by omega) ?_ | refine r_sl hG Y Y ?_)
      | (show AOp _ _ ⟨_, .unOp _ _ _, _, _, _, _⟩ _ _ _; refine B2 hG Y Y Y ?_)
      | (show AOp _ _ ⟨_, .buildSlice _ _ _, _, _, _, _⟩ _ _ _; first | refine r_mk (sz := 1) hG Y Y Y Y Y Y Y ?_)
      | (show AOp _ _ ⟨_, .build _ _, _, _, _, _⟩ _ _ _; refine r_build hG Y Y Y Y Y ?_)
      | (show AOp _ _ ⟨_, .alloc _, _, _, _, _⟩ _ _ _; refine Ch hG Y Y (fun i => ?_))
      | (show AOp _ _ ⟨_, .store _ _ _, _, _, _, _⟩ _ _ _; first | refine Bn 0 hG Y Y Y Y Y Y Y ?_ | refine Bn 1 hG Y Y Y Y Y Y Y ?_)
      | (show AOp _ _ ⟨_, .call ⟨.value _, _, _⟩, _, _, _, _⟩ _ _ _; first | refine A8 Y Y Y Y Y (by apply hc <;> (first | assumption | omega | exact Ab _ _ | exact Ad _ | exact Ae _ _ | exact Ai _ | rfl | (simp; omega))) ?_ | fail)
      | refine r_q hG Y Y Y ?_))
    | (show AL _ _ _ _ _ _ _ _; first | refine Bh Y Y Y ?_ | (refine As ?_; first | show AW _ _ _ _ _ _ | show ∃ x', _ < _ ∧ _)) | (show AW _ _ (.seq _ _) _ _ _; refine Ah ?_; intro Q1) | (show AW _ _ (.region _ _ false) _ _ _; refine Af ?_; intro O1) | (show AW _ _ (.cond _ _ _) _ _ _; first | refine Ak Y ?_ | refine Aj Y ?_) | (show AW _ _ (.skip) _ _ _; refine Al ?_; first | show AW _ _ _ _ _ _ | show ∃ x', _ < _ ∧ _) | (show AW _ _ (.goto _) _ _ _; refine Bv ?_; try dsimp only [Ap, Aa, Ao, Ac]) | (show AW _ _ (.ret) _ _ _; refine Aq ?_; try dsimp only [Ap, Aa, Ao, Ac]) | fail)
        refine Bb (res_cell 0 rfl rfl rfl (Ar rfl (Ar rfl A9))) ?_ rfl
        rw [takeS_1 ht he]
        exact Wk.tupL (wk3 sets_nil (.refl _) (.refl _))
    · obtain rfl := e1 rfl
      have h1 := g1 (Nat.le_refl 1)
      dsimp only
      clear g1 g2 g3 e0 e1 e2
      have hu1 := takeC_used h1
      rcases ht : Bw (s.drop n) with ⟨a', n', e⟩
      have hc := cats_Take_is (x := sT (s.drop n)) (Ad _) (by omega) ht
      by_cases he : e = 0
      · subst he
        have hu := takeC_used ht
        repeat' (first
    | ((show AL _ _ _ _ _ _ _ _; refine Ag Y ?_); (first
      | (show AOp _ _ ⟨_, .move _, _, _, _, _⟩ _ _ _; refine Am hG Y Y ?_)
      | (show AOp _ _ ⟨_, .assign _, _, _, _, _⟩ _ _ _; refine A7 hG Y Y ?_)
      | (show AOp _ _ ⟨_, .call ⟨.builtin .len, _, _⟩, _, _, _, _⟩ _ _ _; first | refine Ax hG Y Y Y Y ?_ | refine Bd hG Y Y Y Y Y ?_)
      | (show AOp _ _ ⟨_, .binOp .add _ _ _ _, _, _, _, _⟩ _ _ _; first | refine Ay hG Y Y Y Y Y (by omega) ?_)
      | (show AOp _ _ ⟨_, .binOp _ _ _ _ _, _, _, _, _⟩ _ _ _; first | refine Av hG Y Y Y Y Y (by omega) ?_ | refine Au hG Y Y Y Y Y (by omega) ?_ | (refine Aw hG Y Y Y Y Y (fun h => ?_) (fun h => ?_)))
      | (show AOp _ _ ⟨_, .load _ _, _, _, _, _⟩ _ _ _; first | refine Bl hG Y Y Y ?_ | refine Az 0 hG Y Y Y Y ?_ | refine Az 1 hG Y Y Y Y ?_)
      | (show AOp _ _ ⟨_, .indexAddr _ _ _, _, _, _, _⟩ _ _ _; first | refine Ce hG Y Y Y Y Y Y Y ?_ | refine Bm hG Y Y Y Y Y Y Y (by omega) ?_ | refine Bk hG Y Y Y Y Y Y Y (by omega) ?_ | refine Bx hG Y Y ?_)
      | (show AOp _ _ ⟨_, .slice _ _ _ _ _, _, _, _, _⟩ _ _ _; first | refine Be hG Y Y Y Y Y Y Y (by omega) ?_ | refine Bg hG Y Y Y Y Y Y Y (by omega) ?_ | refine r_sl hG Y Y ?_)
      | (show AOp _ _ ⟨_, .unOp _ _ _, _, _, _, _⟩ _ _ _; refine B2 hG Y Y Y ?_)
      | (show AOp _ _ ⟨_, .buildSlice _ _ _, _, _, _, _⟩ _ _ _; first | refine r_mk (sz := 1) hG Y Y Y Y Y Y Y ?_)
      | (show AOp _ _ ⟨_, .build _ _, _, _, _, _⟩ _ _ _; refine r_build hG Y Y Y Y Y ?_)
      | (show AOp _ _ ⟨_, .alloc _, _, _, _, _⟩ _ _ _; refine Ch hG Y Y (fun i => ?_))
      | (show AOp _ _ ⟨_, .store _ _ _, _, _, _, _⟩ _ _ _; first | refine Bn 0 hG Y Y Y Y Y Y Y ?_ | refine Bn 1 hG Y Y Y Y Y Y Y ?_)
      | (show AOp _ _ ⟨_, .call ⟨.value _, _, _⟩, _, _, _, _⟩ _ _ _; first | refine A8 Y Y Y Y Y (by apply hc <;> (first | assumption | omega | exact Ab _ _ | exact Ad _ | exact Ae _ _ | exact Ai _ | rfl | (simp; omega))) ?_ | fail)
      | refine r_q hG Y Y Y ?_))
    | (show AL _ _ _ _ _ _ _ _; first | refine Bh Y Y Y ?_ | (refine As ?_; first | show AW _ _ _ _ _ _ | show ∃ x', _ < _ ∧ _)) | (show AW _ _ (.seq _ _) _ _ _; refine Ah ?_; intro Q1) | (show AW _ _ (.region _ _ false) _ _ _; refine Af ?_; intro O1) | (show AW _ _ (.cond _ _ _) _ _ _; first | refine Ak Y ?_ | refine Aj Y ?_) | (show AW _ _ (.skip) _ _ _; refine Al ?_; first | show AW _ _ _ _ _ _ | show ∃ x', _ < _ ∧ _) | (show AW _ _ (.goto _) _ _ _; refine Bv ?_; try dsimp only [Ap, Aa, Ao, Ac]) | (show AW _ _ (.ret) _ _ _; refine Aq ?_; try dsimp only [Ap, Aa, Ao, Ac]) | fail)
        refine ⟨rfl, ⟨2, i, a, a', [], n + n', n, n', by omega, by omega, fun _ => h1, fun _ => ht, fun h => by omega, fun h => by omega, fun h => by omega, fun _ => rfl⟩, by dsimp only; omega, ?_, .refl _⟩
        exact .cons rfl (.cons rfl (.consW rfl (.int (by simp)) (.cons rfl (.nil _))))
      · repeat' (first
    | ((show AL _ _ _ _ _ _ _ _; refine Ag Y ?_); (first
      | (show AOp _ _ ⟨_, .move _, _, _, _, _⟩ _ _ _; refine Am hG Y Y ?_)
      | (show AOp _ _ ⟨_, .assign _, _, _, _, _⟩ _ _ _; refine A7 hG Y Y ?_)
      | (show AOp _ _ ⟨_, .call ⟨.builtin .len, _, _⟩, _, _, _, _⟩ _ _ _; first | refine Ax hG Y Y Y Y ?_ | refine Bd hG Y Y Y Y Y ?_)
      | (show AOp _ _ ⟨_, .binOp .add _ _ _ _, _, _, _, _⟩ _ _ _; first | refine Ay hG Y Y Y Y Y (by omega) ?_)
      | (show AOp _ _ ⟨_, .binOp _ _ _ _ _, _, _, _, _⟩ _ _ _; first | refine Av hG Y Y Y Y Y (by omega) ?_ | refine Au hG Y Y Y Y Y (by omega) ?_ | (refine Aw hG Y Y Y Y Y (fun h => ?_) (fun h => ?_)))
      | (show AOp _ _ ⟨_, .load _ _, _, _, _, _⟩ _ _ _; first | refine Bl hG Y Y Y ?_ | refine Az 0 hG Y Y Y Y ?_ | refine Az 1 hG Y Y Y Y ?_)
      | (show AOp _ _ ⟨_, .indexAddr _ _ _, _, _, _, _⟩ _ _ _; first | refine Ce hG Y Y Y Y Y Y Y ?_ | refine Bm hG Y Y Y Y Y Y Y (by omega) ?_ | refine Bk hG Y Y Y Y Y Y Y (by omega) ?_ | refine Bx hG Y Y ?_)
      | (show AOp _ _ ⟨_, .slice _ _ _ _ _, _, _, _, _⟩ _ _ _; first | refine Be hG Y Y Y Y Y Y Y (by omega) ?_ | refine Bg hG Y Y Y Y Y Y Y (by omega) ?_ | refine r_sl hG Y Y ?_)
      | (show AOp _ _ ⟨_, .unOp _ _ _, _, _, _, _⟩ _ _ _; refine B2 hG Y Y Y ?_)
      | (show AOp _ _ ⟨_, .buildSlice _ _ _, _, _, _, _⟩ _ _ _; first | refine r_mk (sz := 1) hG Y Y Y Y Y Y Y ?_)
      | (show AOp _ _ ⟨_, .build _ _, _, _, _, _⟩ _ _ _; refine r_build hG Y Y Y Y Y ?_)
      | (show AOp _ _ ⟨_, .alloc _, _, _, _, _⟩ _ _ _; refine Ch hG Y Y (fun i => ?_))
      | (show AOp _ _ ⟨_, .store _ _ _, _, _, _, _⟩ _ _ _; first | refine Bn 0 hG Y Y Y Y Y Y Y ?_ | refine Bn 1 hG Y Y Y Y Y Y Y ?_)
      | (show AOp _ _ ⟨_, .call ⟨.value _, _, _⟩, _, _, _, _⟩ _ _ _; first | refine A8 Y Y Y Y Y (by apply hc <;> (first | assumption | omega | exact Ab _ _ | exact Ad _ | exact Ae _ _ | exact Ai _ | rfl | (simp; omega))) ?_ | fail)
      | refine r_q hG Y Y Y ?_))
    | (show AL _ _ _ _ _ _ _ _; first | refine Bh Y Y Y ?_ | (refine As ?_; first | show AW _ _ _ _ _ _ | show ∃ x', _ < _ ∧ _)) | (show AW _ _ (.seq _ _) _ _ _; refine Ah ?_; intro Q1) | (show AW _ _ (.region _ _ false) _ _ _; refine Af ?_; intro O1) | (show AW _ _ (.cond _ _ _) _ _ _; first | refine Ak Y ?_ | refine Aj Y ?_) | (show AW _ _ (.skip) _ _ _; refine Al ?_; first | show AW _ _ _ _ _ _ | show ∃ x', _ < _ ∧ _) | (show AW _ _ (.goto _) _ _ _; refine Bv ?_; try dsimp only [Ap, Aa, Ao, Ac]) | (show AW _ _ (.ret) _ _ _; refine Aq ?_; try dsimp only [Ap, Aa, Ao, Ac]) | fail)
        refine Bb (res_cell 0 rfl rfl rfl (Ar rfl (Ar rfl A9))) ?_ rfl
        rw [takeS_2 h1 ht he]
        exact Wk.tupL (wk3 sets_nil (.refl _) (.refl _))
    · obtain rfl := e2 rfl
      have h1 := g1 (by decide)
      have h2 := g2 (by decide)
      dsimp only
      clear g1 g2 g3 e0 e1 e2
      have hu1 := takeC_used h1
      have hu2 := takeC_used h2
      rcases ht : Bw (s.drop (n1 + n2)) with ⟨a', n', e⟩
      have hc := cats_Take_is (x := sT (s.drop (n1 + n2))) (Ad _) (by omega) ht
      by_cases he : e = 0
      · subst he
        have hu := takeC_used ht
        repeat' (first
    | ((show AL _ _ _ _ _ _ _ _; refine Ag Y ?_); (first
      | (show AOp _ _ ⟨_, .move _, _, _, _, _⟩ _ _ _; refine Am hG Y Y ?_)
      | (show AOp _ _ ⟨_, .assign _, _, _, _, _⟩ _ _ _; refine A7 hG Y Y ?_)
      | (show AOp _ _ ⟨_, .call ⟨.builtin .len, _, _⟩, _, _, _, _⟩ _ _ _; first | refine Ax hG Y Y Y Y ?_ | refine Bd hG Y Y Y Y Y ?_)
      | (show AOp _ _ ⟨_, .binOp .add _ _ _ _, _, _, _, _⟩ _ _ _; first | refine Ay hG Y Y Y Y Y (by omega) ?_)
      | (show AOp _ _ ⟨_, .binOp _ _ _ _ _, _, _, _, _⟩ _ _ _; first | refine Av hG Y Y Y Y Y (by omega) ?_ | refine Au hG Y Y Y Y Y (by omega) ?_ | (refine Aw hG Y Y Y Y Y (fun h => ?_) (fun h => ?_)))
      | (show AOp _ _ ⟨_, .load _ _, _, _, _, _⟩ _ _ _; first | refine Bl hG Y Y Y ?_ | refine Az 0 hG Y Y Y Y ?_ | refine Az 1 hG Y Y Y Y ?_)
      | (show AOp _ _ ⟨_, .indexAddr _ _ _, _, _, _, _⟩ _ _ _; first | refine Ce hG Y Y Y Y Y Y Y ?_ | refine Bm hG Y Y Y Y Y Y Y (by omega) ?_ | refine Bk hG Y Y Y Y Y Y Y (by omega) ?_ | refine Bx hG Y Y ?_)
      | (show AOp _ _ ⟨_, .slice _ _ _ _ _, _, _, _, _⟩ _ _ _; first | refine Be hG Y Y Y Y Y Y Y (by omega) ?_ | refine Bg hG Y Y Y Y Y Y Y (by omega) ?_ | refine r_sl hG Y Y ?_)
      | (show AOp _ _ ⟨_, .unOp _ _ _, _, _, _, _⟩ _ _ _; refine B2 hG Y Y Y ?_)
      | (show AOp _ _ ⟨_, .buildSlice _ _ _, _, _, _, _⟩ _ _ _; first | refine r_mk (sz := 1) hG Y Y Y Y Y Y Y ?_)
      | (show AOp _ _ ⟨_, .build _ _, _, _, _, _⟩ _ _ _; refine r_build hG Y Y Y Y Y ?_)
      | (show AOp _ _ ⟨_, .alloc _, _, _, _, _⟩ _ _ _; refine Ch hG Y Y (fun i => ?_))
      | (show AOp _ _ ⟨_, .store _ _ _, _, _, _, _⟩ _ _ _; first | refine Bn 0 hG Y Y Y Y Y Y Y ?_ | refine Bn 1 hG Y Y Y Y Y Y Y ?_)
      | (show AOp _ _ ⟨_, .call ⟨.value _, _, _⟩, _, _, _, _⟩ _ _ _; first | refine A8 Y Y Y Y Y (by apply hc <;> (first | assumption | omega | exact Ab _ _ | exact Ad _ | exact Ae _ _ | exact Ai _ | rfl | (simp; omega))) ?_ | fail)
      | refine r_q hG Y Y Y ?_))
    | (show AL _ _ _ _ _ _ _ _; first | refine Bh Y Y Y ?_ | (refine As ?_; first | show AW _ _ _ _ _ _ | show ∃ x', _ < _ ∧ _)) | (show AW _ _ (.seq _ _) _ _ _; refine Ah ?_; intro Q1) | (show AW _ _ (.region _ _ false) _ _ _; refine Af ?_; intro O1) | (show AW _ _ (.cond _ _ _) _ _ _; first | refine Ak Y ?_ | refine Aj Y ?_) | (show AW _ _ (.skip) _ _ _; refine Al ?_; first | show AW _ _ _ _ _ _ | show ∃ x', _ < _ ∧ _) | (show AW _ _ (.goto _) _ _ _; refine Bv ?_; try dsimp only [Ap, Aa, Ao, Ac]) | (show AW _ _ (.ret) _ _ _; refine Aq ?_; try dsimp only [Ap, Aa, Ao, Ac]) | fail)
        refine ⟨rfl, ⟨3, i, a, b, a', n1 + n2 + n', n1, n2, by omega, by omega, fun _ => h1, fun _ => h2, fun _ => ⟨n', ht, rfl⟩, fun h => by omega, fun h => by omega, fun h => by omega⟩, by dsimp only; omega, ?_, .refl _⟩
        exact .cons rfl (.cons rfl (.consW rfl (.int (by simp)) (.cons rfl (.nil _))))
      · repeat' (first
    | ((show AL _ _ _ _ _ _ _ _; refine Ag Y ?_); (first
      | (show AOp _ _ ⟨_, .move _, _, _, _, _⟩ _ _ _; refine Am hG Y Y ?_)
      | (show AOp _ _ ⟨_, .assign _, _, _, _, _⟩ _ _ _; refine A7 hG Y Y ?_)
      | (show AOp _ _ ⟨_, .call ⟨.builtin .len, _, _⟩, _, _, _, _⟩ _ _ _; first | refine Ax hG Y Y Y Y ?_ | refine Bd hG Y Y Y Y Y ?_)
      | (show AOp _ _ ⟨_, .binOp .add _ _ _ _, _, _, _, _⟩ _ _ _; first | refine Ay hG Y Y Y Y Y (by omega) ?_)
      | (show AOp _ _ ⟨_, .binOp _ _ _ _ _, _, _, _, _⟩ _ _ _; first | refine Av hG Y Y Y Y Y (by omega) ?_ | refine Au hG Y Y Y Y Y (by omega) ?_ | (refine Aw hG Y Y Y Y Y (fun h => ?_) (fun h => ?_)))
      | (show AOp _ _ ⟨_, .load _ _, _, _, _, _⟩ _ _ _; first | refine Bl hG Y Y Y ?_ | refine Az 0 hG Y Y Y Y ?_ | refine Az 1 hG Y Y Y Y ?_)
      | (show AOp _ _ ⟨_, .indexAddr _ _ _, _, _, _, _⟩ _ _ _; first | refine Ce hG Y Y Y Y Y Y Y ?_ | refine Bm hG Y Y Y Y Y Y Y (by omega) ?_ | refine Bk hG Y Y Y Y Y Y Y (by omega) ?_ | refine Bx hG Y Y ?_)
      | (show AOp _ _ ⟨_, .slice _ _ _ _ _, _, _, _, _⟩ _ _ _; first | refine Be hG Y Y Y Y Y Y Y (by omega) ?_ | refine Bg hG Y Y Y Y Y Y Y (by omega) ?_ | refine r_sl hG Y Y ?_)
      | (show AOp _ _ ⟨_, .unOp _ _ _, _, _, _, _⟩ _ _ _; refine B2 hG Y Y Y ?_)
      | (show AOp _ _ ⟨_, .buildSlice _ _ _, _, _, _, _⟩ _ _ _; first | refine r_mk (sz := 1) hG Y Y Y Y Y Y Y ?_)
      | (show AOp _ _ ⟨_, .build _ _, _, _, _, _⟩ _ _ _; refine r_build hG Y Y Y Y Y ?_)
      | (show AOp _ _ ⟨_, .alloc _, _, _, _, _⟩ _ _ _; refine Ch hG Y Y (fun i => ?_))
      | (show AOp _ _ ⟨_, .store _ _ _, _, _, _, _⟩ _ _ _; first | refine Bn 0 hG Y Y Y Y Y Y Y ?_ | refine Bn 1 hG Y Y Y Y Y Y Y ?_)
      | (show AOp _ _ ⟨_, .call ⟨.value _, _, _⟩, _, _, _, _⟩ _ _ _; first | refine A8 Y Y Y Y Y (by apply hc <;> (first | assumption | omega | exact Ab _ _ | exact Ad _ | exact Ae _ _ | exact Ai _ | rfl | (simp; omega))) ?_ | fail)
      | refine r_q hG Y Y Y ?_))
    | (show AL _ _ _ _ _ _ _ _; first | refine Bh Y Y Y ?_ | (refine As ?_; first | show AW _ _ _ _ _ _ | show ∃ x', _ < _ ∧ _)) | (show AW _ _ (.seq _ _) _ _ _; refine Ah ?_; intro Q1) | (show AW _ _ (.region _ _ false) _ _ _; refine Af ?_; intro O1) | (show AW _ _ (.cond _ _ _) _ _ _; first | refine Ak Y ?_ | refine Aj Y ?_) | (show AW _ _ (.skip) _ _ _; refine Al ?_; first | show AW _ _ _ _ _ _ | show ∃ x', _ < _ ∧ _) | (show AW _ _ (.goto _) _ _ _; refine Bv ?_; try dsimp only [Ap, Aa, Ao, Ac]) | (show AW _ _ (.ret) _ _ _; refine Aq ?_; try dsimp only [Ap, Aa, Ao, Ac]) | fail)
        refine Bb (res_cell 0 rfl rfl rfl (Ar rfl (Ar rfl A9))) ?_ rfl
        rw [takeS_3 h1 h2 ht he]
        exact Wk.tupL (wk3 sets_nil (.refl _) (.refl _))
    · have h1 := g1 (by decide)
      have h2 := g2 (by decide)
      obtain ⟨n3, h3, hn3⟩ := g3 (by decide)
      dsimp only
      clear g1 g2 g3 e0 e1 e2
      subst hn3
      have hu1 := takeC_used h1
      have hu2 := takeC_used h2
      have hu3 := takeC_used h3
      have hm := sets_May (Ai a) (Ai b) (Ai c) (by omega) (by omega) (by omega)
      cases q : B5 a b c <;> rw [q] at hm
      · repeat' (first
    | ((show AL _ _ _ _ _ _ _ _; refine Ag Y ?_); (first
      | (show AOp _ _ ⟨_, .move _, _, _, _, _⟩ _ _ _; refine Am hG Y Y ?_)
      | (show AOp _ _ ⟨_, .assign _, _, _, _, _⟩ _ _ _; refine A7 hG Y Y ?_)
      | (show AOp _ _ ⟨_, .call ⟨.builtin .len, _, _⟩, _, _, _, _⟩ _ _ _; first | refine Ax hG Y Y Y Y ?_ | refine Bd hG Y Y Y Y Y ?_)
      | (show AOp _ _ ⟨_, .binOp .add _ _ _ _, _, _, _, _⟩ _ _ _; first | refine Ay hG Y Y Y Y Y (by omega) ?_)
      | (show AOp _ _ ⟨_, .binOp _ _ _ _ _, _, _, _, _⟩ _ _ _; first | refine Av hG Y Y Y Y Y (by omega) ?_ | refine Au hG Y Y Y Y Y (by omega) ?_ | (refine Aw hG Y Y Y Y Y (fun h => ?_) (fun h => ?_)))
      | (show AOp _ _ ⟨_, .load _ _, _, _, _, _⟩ _ _ _; first | refine Bl hG Y Y Y ?_ | refine Az 0 hG Y Y Y Y ?_ | refine Az 1 hG Y Y Y Y ?_)
      | (show AOp _ _ ⟨_, .indexAddr _ _ _, _, _, _, _⟩ _ _ _; first | refine Ce hG Y Y Y Y Y Y Y ?_ | refine Bm hG Y Y Y Y Y Y Y (by omega) ?_ | refine Bk hG Y Y Y Y Y Y Y (by omega) ?_ | refine Bx hG Y Y ?_)
      | (show AOp _ _ ⟨_, .slice _ _ _ _ _, _, _, _, _⟩ _ _ _; first | refine Be hG Y Y Y Y Y Y Y (by omega) ?_ | refine Bg hG Y Y Y Y Y Y Y (by omega) ?_ | refine r_sl hG Y Y ?_)
      | (show AOp _ _ ⟨_, .unOp _ _ _, _, _, _, _⟩ _ _ _; refine B2 hG Y Y Y ?_)
      | (show AOp _ _ ⟨_, .buildSlice _ _ _, _, _, _, _⟩ _ _ _; first | refine r_mk (sz := 1) hG Y Y Y Y Y Y Y ?_)
      | (show AOp _ _ ⟨_, .build _ _, _, _, _, _⟩ _ _ _; refine r_build hG Y Y Y Y Y ?_)
      | (show AOp _ _ ⟨_, .alloc _, _, _, _, _⟩ _ _ _; refine Ch hG Y Y (fun i => ?_))
      | (show AOp _ _ ⟨_, .store _ _ _, _, _, _, _⟩ _ _ _; first | refine Bn 0 hG Y Y Y Y Y Y Y ?_ | refine Bn 1 hG Y Y Y Y Y Y Y ?_)
      | (show AOp _ _ ⟨_, .call ⟨.value _, _, _⟩, _, _, _, _⟩ _ _ _; first | refine A8 Y Y Y Y Y (by apply hm <;> (first | assumption | omega | exact Ab _ _ | exact Ad _ | exact Ae _ _ | exact Ai _ | rfl | (simp; omega))) ?_ | fail)
      | refine r_q hG Y Y Y ?_))
    | (show AL _ _ _ _ _ _ _ _; first | refine Bh Y Y Y ?_ | (refine As ?_; first | show AW _ _ _ _ _ _ | show ∃ x', _ < _ ∧ _)) | (show AW _ _ (.seq _ _) _ _ _; refine Ah ?_; intro Q1) | (show AW _ _ (.region _ _ false) _ _ _; refine Af ?_; intro O1) | (show AW _ _ (.cond _ _ _) _ _ _; first | refine Ak Y ?_ | refine Aj Y ?_) | (show AW _ _ (.skip) _ _ _; refine Al ?_; first | show AW _ _ _ _ _ _ | show ∃ x', _ < _ ∧ _) | (show AW _ _ (.goto _) _ _ _; refine Bv ?_; try dsimp only [Ap, Aa, Ao, Ac]) | (show AW _ _ (.ret) _ _ _; refine Aq ?_; try dsimp only [Ap, Aa, Ao, Ac]) | fail)
        refine Bb (res_cell 0 rfl rfl rfl (Ar rfl (Ar rfl A9))) ?_ rfl
        rw [takeS_4 h1 h2 h3, q]
        exact Wk.tupL (wk3 sets_nil (.refl _) (.refl _))
      · repeat' (first
    | ((show AL _ _ _ _ _ _ _ _; refine Ag Y ?_); (first
      | (show AOp _ _ ⟨_, .move _, _, _, _, _⟩ _ _ _; refine Am hG Y Y ?_)
      | (show AOp _ _ ⟨_, .assign _, _, _, _, _⟩ _ _ _; refine A7 hG Y Y ?_)
      | (show AOp _ _ ⟨_, .call ⟨.builtin .len, _, _⟩, _, _, _, _⟩ _ _ _; first | refine Ax hG Y Y Y Y ?_ | refine Bd hG Y Y Y Y Y ?_)
      | (show AOp _ _ ⟨_, .binOp .add _ _ _ _, _, _, _, _⟩ _ _ _; first | refine Ay hG Y Y Y Y Y (by omega) ?_)
      | (show AOp _ _ ⟨_, .binOp _ _ _ _ _, _, _, _, _⟩ _ _ _; first | refine Av hG Y Y Y Y Y (by omega) ?_ | refine Au hG Y Y Y Y Y (by omega) ?_ | (refine Aw hG Y Y Y Y Y (fun h => ?_) (fun h => ?_)))
      | (show AOp _ _ ⟨_, .load _ _, _, _, _, _⟩ _ _ _; first | refine Bl hG Y Y Y ?_ | refine Az 0 hG Y Y Y Y ?_ | refine Az 1 hG Y Y Y Y ?_)
      | (show AOp _ _ ⟨_, .indexAddr _ _ _, _, _, _, _⟩ _ _ _; first | refine Ce hG Y Y Y Y Y Y Y ?_ | refine Bm hG Y Y Y Y Y Y Y (by omega) ?_ | refine Bk hG Y Y Y Y Y Y Y (by omega) ?_ | refine Bx hG Y Y ?_)
      | (show AOp _ _ ⟨_, .slice _ _ _ _ _, _, _, _, _⟩ _ _ _; first | refine Be hG Y Y Y Y Y Y Y (by omega) ?_ | refine Bg hG Y Y Y Y Y Y Y (by omega) ?_ | refine r_sl hG Y Y ?_)
      | (show AOp _ _ ⟨_, .unOp _ _ _, _, _, _, _⟩ _ _ _; refine B2 hG Y Y Y ?_)
      | (show AOp _ _ ⟨_, .buildSlice _ _ _, _, _, _, _⟩ _ _ _; first | refine r_mk (sz := 1) hG Y Y Y Y Y Y Y ?_)
      | (show AOp _ _ ⟨_, .build _ _, _, _, _, _⟩ _ _ _; refine r_build hG Y Y Y Y Y ?_)
      | (show AOp _ _ ⟨_, .alloc _, _, _, _, _⟩ _ _ _; refine Ch hG Y Y (fun i => ?_))
      | (show AOp _ _ ⟨_, .store _ _ _, _, _, _, _⟩ _ _ _; first | refine Bn 0 hG Y Y Y Y Y Y Y ?_ | refine Bn 1 hG Y Y Y Y Y Y Y ?_)
      | (show AOp _ _ ⟨_, .call ⟨.value _, _, _⟩, _, _, _, _⟩ _ _ _; first | refine A8 Y Y Y Y Y (by apply hm <;> (first | assumption | omega | exact Ab _ _ | exact Ad _ | exact Ae _ _ | exact Ai _ | rfl | (simp; omega))) ?_ | fail)
      | refine r_q hG Y Y Y ?_))
    | (show AL _ _ _ _ _ _ _ _; first | refine Bh Y Y Y ?_ | (refine As ?_; first | show AW _ _ _ _ _ _ | show ∃ x', _ < _ ∧ _)) | (show AW _ _ (.seq _ _) _ _ _; refine Ah ?_; intro Q1) | (show AW _ _ (.region _ _ false) _ _ _; refine Af ?_; intro O1) | (show AW _ _ (.cond _ _ _) _ _ _; first | refine Ak Y ?_ | refine Aj Y ?_) | (show AW _ _ (.skip) _ _ _; refine Al ?_; first | show AW _ _ _ _ _ _ | show ∃ x', _ < _ ∧ _) | (show AW _ _ (.goto _) _ _ _; refine Bv ?_; try dsimp only [Ap, Aa, Ao, Ac]) | (show AW _ _ (.ret) _ _ _; refine Aq ?_; try dsimp only [Ap, Aa, Ao, Ac]) | fail)
        refine Bb (res_cell 0 rfl rfl rfl (Ar rfl (Ar rfl A9))) ?_ rfl
        rw [takeS_4 h1 h2 h3, q]
        exact .refl _
  · intro key
    repeat' (first
    | ((show AL _ _ _ _ _ _ _ _; refine Ag Y ?_); (first
      | (show AOp _ _ ⟨_, .move _, _, _, _, _⟩ _ _ _; refine Am hG Y Y ?_)
      | (show AOp _ _ ⟨_, .assign _, _, _, _, _⟩ _ _ _; refine A7 hG Y Y ?_)
      | (show AOp _ _ ⟨_, .call ⟨.builtin .len, _, _⟩, _, _, _, _⟩ _ _ _; first | refine Ax hG Y Y Y Y ?_ | refine Bd hG Y Y Y Y Y ?_)
      | (show AOp _ _ ⟨_, .binOp .add _ _ _ _, _, _, _, _⟩ _ _ _; first | refine Ay hG Y Y Y Y Y (by omega) ?_)
      | (show AOp _ _ ⟨_, .binOp _ _ _ _ _, _, _, _, _⟩ _ _ _; first | refine Av hG Y Y Y Y Y (by omega) ?_ | refine Au hG Y Y Y Y Y (by omega) ?_ | (refine Aw hG Y Y Y Y Y (fun h => ?_) (fun h => ?_)))
      | (show AOp _ _ ⟨_, .load _ _, _, _, _, _⟩ _ _ _; first | refine Bl hG Y Y Y ?_ | refine Az 0 hG Y Y Y Y ?_ | refine Az 1 hG Y Y Y Y ?_)
      | (show AOp _ _ ⟨_, .indexAddr _ _ _, _, _, _, _⟩ _ _ _; first | refine Ce hG Y Y Y Y Y Y Y ?_ | refine Bm hG Y Y Y Y Y Y Y (by omega) ?_ | refine Bk hG Y Y Y Y Y Y Y (by omega) ?_ | refine Bx hG Y Y ?_)
      | (show AOp _ _ ⟨_, .slice _ _ _ _ _, _, _, _, _⟩ _ _ _; first | refine Be hG Y Y Y Y Y Y Y (by omega) ?_ | refine Bg hG Y Y Y Y Y Y Y (by omega) ?_ | refine r_sl hG Y Y ?_)
      | (show AOp _ _ ⟨_, .unOp _ _ _, _, _, _, _⟩ _ _ _; refine B2 hG Y Y Y ?_)
      | (show AOp _ _ ⟨_, .buildSlice _ _ _, _, _, _, _⟩ _ _ _; first | refine r_mk (sz := 1) hG Y Y Y Y Y Y Y ?_)
      | (show AOp _ _ ⟨_, .build _ _, _, _, _, _⟩ _ _ _; refine r_build hG Y Y Y Y Y ?_)
      | (show AOp _ _ ⟨_, .alloc _, _, _, _, _⟩ _ _ _; refine Ch hG Y Y (fun i => ?_))
      | (show AOp _ _ ⟨_, .store _ _ _, _, _, _, _⟩ _ _ _; first | refine Bn 0 hG Y Y Y Y Y Y Y ?_ | refine Bn 1 hG Y Y Y Y Y Y Y ?_)
      | refine r_q hG Y Y Y ?_))
    | (show AL _ _ _ _ _ _ _ _; first | refine Bh Y Y Y ?_ | (refine As ?_; first | show AW _ _ _ _ _ _ | show ∃ x', _ < _ ∧ _)) | (show AW _ _ (.seq _ _) _ _ _; refine Ah ?_; intro Q1) | (show AW _ _ (.region _ _ false) _ _ _; refine Af ?_; intro O1) | (show AW _ _ (.cond _ _ _) _ _ _; first | refine Ak Y ?_ | refine Aj Y ?_) | (show AW _ _ (.skip) _ _ _; refine Al ?_; first | show AW _ _ _ _ _ _ | show ∃ x', _ < _ ∧ _) | (show AW _ _ (.goto _) _ _ _; refine Bv ?_; try dsimp only [Ap, Aa, Ao, Ac]) | (show AW _ _ (.ret) _ _ _; refine Aq ?_; try dsimp only [Ap, Aa, Ao, Ac]) | fail)
    refine aw_label ?_
    show AW _ _ _ _ _ _
    refine aw_forget ?_ (key ⟨0, i, [], [], [], 0, 0, 0, by omega, by omega, fun h => by omega, fun h => by omega, fun h => by omega, fun _ => rfl, fun h => by omega, fun h => by omega⟩)
    exact .cons rfl (.cons rfl (.cons rfl (.consW rfl (Wk.own _ _ _) (.nil _))))
end Go.Proofs.Ytholeicgmkjadaa
namespace Go.Proofs.Ytholeicgmkjadaa
open Go.Ts Go.Sets
def flat2 (a : List UInt16) : List UInt8 := a.flatMap fun c => putI c.toNat 2
theorem flat2_cons (x : UInt16) (a : List UInt16) : flat2 (x :: a) = be x.toNat 2 ++ flat2 a := by
  unfold flat2; rw [List.flatMap_cons, putI, if_pos (by omega)]; rfl
theorem putC_eq (b : List UInt8) (a : List UInt16) : putC b a = b ++ putC [] a := by simp [putC, List.append_assoc]
theorem putC_nil (a : List UInt16) : putC [] a = UInt8.ofNat a.length :: flat2 a := by simp [putC, putI1, flat2]
theorem putC_len (a : List UInt16) : (putC [] a).length = 1 + 2 * a.length := by rw [putC_nil, List.length_cons, flat2, flat2_length]; omega
theorem beV_be2 (v : Nat) (h : v < 65536) : beV (be v 2) = v := by
  simp [be, beV, UInt8.toNat_ofNat']; omega
theorem flat2_drop : ∀ (a : List UInt16) (i : Nat) (t : List UInt8), i ≤ a.length → (flat2 a ++ t).drop (2 * i) = flat2 (a.drop i) ++ t
  | a, 0, t, _ => by simp
  | [], i + 1, t, h => by simp at h
  | x :: a, i + 1, t, h => by
    rw [flat2_cons, List.append_assoc, show 2 * (i + 1) = (be x.toNat 2).length + 2 * i by rw [be_length]; omega, List.drop_length_add_append, flat2_drop a i t (by simpa using h)]; rfl
theorem flat2_take (a : List UInt16) (t : List UInt8) (h : a ≠ []) : (flat2 a ++ t).take 2 = be (a.getD 0 default).toNat 2 := by
  cases a with
  | nil => exact absurd rfl h
  | cons x a =>
    rw [flat2_cons, List.append_assoc]
    have : (be x.toNat 2).length = 2 := be_length _ _
    rw [List.take_append_of_le_length (by omega), List.take_of_length_le (by omega)]; rfl
theorem range_map_eq {α : Type} [Inhabited α] (l : List α) (g : Nat → α) (h : ∀ i, i < l.length → g i = l.getD i default) : (List.range l.length).map g = l := by
  refine List.ext_getElem (by simp) fun i h1 h2 => ?_
  rw [List.getElem_map, List.getElem_range, h i h2]
  simp [List.getElem?_eq_getElem h2]
theorem takeC_putC {a : List UInt16} (ha : mayC a = true) (t : List UInt8) : Bw (putC [] a ++ t) = (a, 1 + 2 * a.length, 0) := by
  have hl := mayC_le ha
  have h1 : beV ((putC [] a ++ t).take 1) = a.length := by
    rw [putC_nil]; simp [beV, UInt8.toNat_ofNat']; omega
  have h2 : (putC [] a ++ t).length = 1 + 2 * a.length + t.length := by rw [List.length_append, putC_len]
  have h3 : (List.range a.length).map (fun i => UInt16.ofNat (beV (((putC [] a ++ t).drop (1 + 2 * i)).take 2))) = a := by
    refine range_map_eq a _ fun i hi => ?_
    have : (putC [] a ++ t).drop (1 + 2 * i) = flat2 (a.drop i) ++ t := by
      rw [putC_nil, List.cons_append, show 1 + 2 * i = 2 * i + 1 by omega, List.drop_succ_cons]
      exact flat2_drop a i t (by omega)
    rw [this, flat2_take _ _ (by intro h; have := congrArg List.length h; simp at this; omega), beV_be2 _ (UInt16.toNat_lt _)]
    simp [List.getD_eq_getElem?_getD]
  unfold Bw
  rw [h1, h3, if_neg (by omega), if_neg (by omega), if_pos ha]
theorem takeC_short {a : List UInt16} (hl : a.length ≤ 16) (k : Nat) (hk : k < 1 + 2 * a.length) (t : List UInt8) : Bw ((putC [] a ++ t).take k) = ([], 0, 3) := by
  have hp := putC_len a
  have e : (putC [] a ++ t).take k = (putC [] a).take k := List.take_append_of_le_length (by omega)
  have h2 : ((putC [] a).take k).length = k := by rw [List.length_take]; omega
  rw [e]
  unfold Bw
  by_cases h0 : k < 1
  · rw [if_pos (by omega)]
  · have h1 : beV (((putC [] a).take k).take 1) = a.length := by
      rw [List.take_take, show min 1 k = 1 by omega, putC_nil]; simp [beV, UInt8.toNat_ofNat']; omega
    rw [h1, if_neg (by omega), if_pos (by omega)]
theorem be_beV2 (x y : UInt8) : be (UInt16.ofNat (beV [x, y])).toNat 2 = [x, y] := by
  have hx := x.toNat_lt
  have hy := y.toNat_lt
  have : (UInt16.ofNat (beV [x, y])).toNat = x.toNat * 256 + y.toNat := by simp [beV, UInt16.toNat_ofNat']; omega
  rw [this]
  have e1 : UInt8.ofNat ((x.toNat * 256 + y.toNat) / 256) = x := by
    rw [← UInt8.toNat_inj, UInt8.toNat_ofNat']; omega
  have e2 : UInt8.ofNat (x.toNat * 256 + y.toNat) = y := by
    rw [← UInt8.toNat_inj, UInt8.toNat_ofNat']; omega
  simp only [be, Nat.mul_one, Nat.mul_zero, Nat.pow_zero, Nat.div_one, show 2 ^ 8 = 256 from rfl, e1, e2]
theorem flat2_snoc (a : List UInt16) (x : UInt16) : flat2 (a ++ [x]) = flat2 a ++ be x.toNat 2 := by
  unfold flat2; rw [List.flatMap_append]; simp [putI]
theorem flat2_back (r : List UInt8) : ∀ m, 2 * m ≤ r.length → flat2 ((List.range m).map fun i => UInt16.ofNat (beV ((r.drop (2 * i)).take 2))) = r.take (2 * m)
  | 0, _ => by simp [flat2]
  | m + 1, h => by
    rw [List.range_succ, List.map_append, List.map_singleton, flat2_snoc, flat2_back r m (by omega)]
    obtain ⟨x, y, hxy⟩ : ∃ x y, (r.drop (2 * m)).take 2 = [x, y] := by
      have : ((r.drop (2 * m)).take 2).length = 2 := by rw [List.length_take, List.length_drop]; omega
      match hh : (r.drop (2 * m)).take 2, this with
      | [x, y], _ => exact ⟨x, y, rfl⟩
    rw [hxy, be_beV2, ← hxy, show 2 * (m + 1) = 2 * m + 2 by omega, List.take_add]
theorem takeC_back {s : List UInt8} {a : List UInt16} {n : Nat} (h : Bw s = (a, n, 0)) : putC [] a = s.take n := by
  unfold Bw at h
  split at h
  · injection h with h1 h2; injection h2 with h3 h4; cases h4
  split at h
  · injection h with h1 h2; injection h2 with h3 h4; cases h4
  split at h
  · rename_i q1 q2 q3
    injection h with h1 h2; injection h2 with h3 h4
    cases s with
    | nil => simp at q1
    | cons x r =>
      have hx := x.toNat_lt
      have e0 : beV ((x :: r).take 1) = x.toNat := by simp [beV]
      rw [e0] at h1 h3 q2
      rw [putC_nil]
      subst h3
      rw [show 1 + 2 * x.toNat = 2 * x.toNat + 1 by omega, List.take_succ_cons]
      have hal : a.length = x.toNat := by rw [← h1]; simp
      congr 1
      · rw [hal]; simp
      · rw [← h1]
        have := flat2_back r x.toNat (by simp at q2; omega)
        rw [← this]
        congr 2
        funext i
        rw [show 1 + 2 * i = 2 * i + 1 by omega, List.drop_succ_cons]
  · injection h with h1 h2; injection h2 with h3 h4; cases h4
theorem putS_eq (s : List UInt8) (a b c : List UInt16) : putS s a b c = s ++ (putC [] a ++ (putC [] b ++ putC [] c)) := by
  unfold putS; rw [putC_eq (putC (putC s a) b), putC_eq (putC s a), putC_eq s]; simp
theorem putS_len (a b c : List UInt16) : (putS [] a b c).length = 3 + 2 * (a.length + b.length + c.length) := by
  rw [putS_eq]; simp only [List.nil_append, List.length_append, putC_len]; omega
theorem maySetsB_parts {a b c : List UInt16} (h : B5 a b c = true) : mayC a = true ∧ mayC b = true ∧ mayC c = true := by
  unfold B5 at h; simp only [Bool.and_eq_true] at h; exact ⟨h.1.1.1.1, h.1.1.1.2, h.1.1.2⟩
theorem takeS_putS {a b c : List UInt16} (h : B5 a b c = true) (t : List UInt8) : takeS (putS [] a b c ++ t) = ⟨a, b, c, (putS [] a b c).length, 0⟩ := by
  obtain ⟨ha, hb, hc⟩ := maySetsB_parts h
  have e : putS [] a b c ++ t = putC [] a ++ (putC [] b ++ (putC [] c ++ t)) := by rw [putS_eq]; simp
  have h1 := takeC_putC ha (putC [] b ++ (putC [] c ++ t))
  have h2 := takeC_putC hb (putC [] c ++ t)
  have h3 := takeC_putC hc t
  have d1 : (putS [] a b c ++ t).drop (1 + 2 * a.length) = putC [] b ++ (putC [] c ++ t) := by
    rw [e, ← putC_len a, List.drop_left]
  have d2 : (putS [] a b c ++ t).drop (1 + 2 * a.length + (1 + 2 * b.length)) = putC [] c ++ t := by
    rw [← List.drop_drop, d1, ← putC_len b, List.drop_left]
  rw [takeS_4 (by rw [e]; exact h1) (by rw [d1]; exact h2) (by rw [d2]; exact h3), h, if_pos rfl, putS_len]
  congr 1; omega
theorem takeS_short {a b c : List UInt16} (h : B5 a b c = true) (k : Nat) (hk : k < (putS [] a b c).length) : (takeS ((putS [] a b c).take k)).e = 3 := by
  obtain ⟨ha, hb, hc⟩ := maySetsB_parts h
  have la := mayC_le ha
  have lb := mayC_le hb
  have lc := mayC_le hc
  rw [putS_len] at hk
  have e : putS [] a b c = putC [] a ++ (putC [] b ++ putC [] c) := by rw [putS_eq]; rfl
  have pa := putC_len a
  have pb := putC_len b
  have pc := putC_len c
  by_cases k1 : k < 1 + 2 * a.length
  · have hs := takeC_short la k k1 (putC [] b ++ putC [] c)
    rw [← e] at hs
    rw [takeS_1 hs (by decide)]
  · have t1 : (putS [] a b c).take k = putC [] a ++ (putC [] b ++ putC [] c).take (k - (1 + 2 * a.length)) := by
      rw [e, List.take_append, List.take_of_length_le (by omega), pa]
    have h1 := takeC_putC ha ((putC [] b ++ putC [] c).take (k - (1 + 2 * a.length)))
    rw [← t1] at h1
    have d1 : ((putS [] a b c).take k).drop (1 + 2 * a.length) = (putC [] b ++ putC [] c).take (k - (1 + 2 * a.length)) := by rw [t1, ← pa, List.drop_left]
    by_cases k2 : k - (1 + 2 * a.length) < 1 + 2 * b.length
    · have hs := takeC_short lb _ k2 (putC [] c)
      rw [← d1] at hs
      rw [takeS_2 h1 hs (by decide)]
    · have t2 : (putC [] b ++ putC [] c).take (k - (1 + 2 * a.length)) = putC [] b ++ (putC [] c).take (k - (1 + 2 * a.length) - (1 + 2 * b.length)) := by
        rw [List.take_append, List.take_of_length_le (by omega), pb]
      have h2 := takeC_putC hb ((putC [] c).take (k - (1 + 2 * a.length) - (1 + 2 * b.length)))
      rw [← t2, ← d1] at h2
      have d2 : ((putS [] a b c).take k).drop (1 + 2 * a.length + (1 + 2 * b.length)) = (putC [] c).take (k - (1 + 2 * a.length) - (1 + 2 * b.length)) := by
        rw [← List.drop_drop, d1, t2, ← pb, List.drop_left]
      have h3 := takeC_short lc (k - (1 + 2 * a.length) - (1 + 2 * b.length)) (by omega) []
      rw [List.append_nil, ← d2] at h3
      rw [takeS_3 h1 h2 h3 (by decide)]
theorem takeS_ok {s : List UInt8} (h : (takeS s).e = 0) : B5 (takeS s).a (takeS s).b (takeS s).c = true ∧ (takeS s).n ≤ s.length ∧ putS [] (takeS s).a (takeS s).b (takeS s).c = s.take (takeS s).n := by
  rcases h1 : Bw s with ⟨a, n, e⟩
  by_cases e1 : e = 0
  · subst e1
    rcases h2 : Bw (s.drop n) with ⟨b, n2, e⟩
    by_cases e2 : e = 0
    · subst e2
      rcases h3 : Bw (s.drop (n + n2)) with ⟨c, n3, e⟩
      by_cases e3 : e = 0
      · subst e3
        have hh := takeS_4 h1 h2 h3
        by_cases hm : B5 a b c = true
        · rw [if_pos hm] at hh
          rw [hh]
          have u1 := takeC_used h1
          have u2 := takeC_used h2
          have u3 := takeC_used h3
          rw [List.length_drop] at u2 u3
          refine ⟨hm, by dsimp only; omega, ?_⟩
          dsimp only
          rw [putS_eq, takeC_back h1, takeC_back h2, takeC_back h3, List.nil_append, List.take_add, List.take_add, List.append_assoc]
        · rw [if_neg hm] at hh
          rw [hh] at h; cases h
      · rw [takeS_3 h1 h2 h3 e3] at h; exact absurd h e3
    · rw [takeS_2 h1 h2 e2] at h; exact absurd h e2
  · rw [takeS_1 h1 e1] at h; exact absurd h e1
theorem takeS_small (s : List UInt8) : (takeS s).a.length ≤ 16 ∧ (takeS s).b.length ≤ 16 ∧ (takeS s).c.length ≤ 16 ∧ (takeS s).n ≤ s.length := by
  by_cases h : (takeS s).e = 0
  · obtain ⟨h1, h2, h3⟩ := takeS_ok h
    obtain ⟨a, b, c⟩ := maySetsB_parts h1
    exact ⟨mayC_le a, mayC_le b, mayC_le c, h2⟩
  · have key : ∀ e : Int, takeS s = ⟨[], [], [], 0, e⟩ → (takeS s).a.length ≤ 16 ∧ (takeS s).b.length ≤ 16 ∧ (takeS s).c.length ≤ 16 ∧ (takeS s).n ≤ s.length := by
      intro e he; rw [he]; simp
    rcases h1 : Bw s with ⟨a, n, e⟩
    by_cases e1 : e = 0
    · subst e1
      rcases h2 : Bw (s.drop n) with ⟨b, n2, e⟩
      by_cases e2 : e = 0
      · subst e2
        rcases h3 : Bw (s.drop (n + n2)) with ⟨c, n3, e⟩
        by_cases e3 : e = 0
        · subst e3
          have hh := takeS_4 h1 h2 h3
          by_cases hm : B5 a b c = true
          · rw [if_pos hm] at hh; exact absurd (by rw [hh]) h
          · rw [if_neg hm] at hh; exact key _ hh
        · exact key _ (takeS_3 h1 h2 h3 e3)
      · exact key _ (takeS_2 h1 h2 e2)
    · exact key _ (takeS_1 h1 e1)
end Go.Proofs.Ytholeicgmkjadaa
