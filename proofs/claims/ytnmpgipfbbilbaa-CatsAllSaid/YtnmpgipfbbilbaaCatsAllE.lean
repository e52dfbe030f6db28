/- Part of the proof of the law CatsAll: the texts CQ2, CQ3. No conditions. -/
import Derived.Test.YtnmpgipfbbilbaaCatsAllD
set_option linter.unusedSimpArgs false
set_option linter.unusedVariables false
namespace Go.Proofs.Ytnmpgipfbbilbaa
open Go.Ts Go.Sets
set_option linter.unusedSimpArgs false
set_option linter.unusedVariables false
attribute [local irreducible] Go.Ts.AW Go.Ts.AOps Go.Ts.AL Go.Ts.AOp Go.Ts.ACalls Go.Ts.DL Go.Ts.DQ Go.Ts.EL
theorem ref_And {x y : T} {a b : List UInt16} (hx : catsT x = some a) (hy : catsT y = some b) (ha : Up a) (hb : Up b) (hl : a.length ≤ 4294967000) (hm : b.length ≤ 4294967296) : Owns Try.prog 22 [x, y] 1 ((Bk kAnd a b).map hT) := by
  refine Owns.weak (us := [cT a, cT b]) ?_ (wk2 (Bw hx) (Bw hy))
  have h := ref_part (t := true) (Ag a) (Ag b) hl hm
  rw [show partL a b true = Bk kAnd a b by rw [← part_and ha hb]; unfold partL; congr 1; funext z; simp] at h
  intro off
  refine Bn (N := 8) (rs := [.tmp 4]) hG Try.func22 rfl rfl rfl rfl rfl ?_
  repeat' (first
    | ((show AL _ _ _ _ _ _ _ _; refine Ah Y ?_); (first
      | (show AOp _ _ ⟨_, .move _, _, _, _, _⟩ _ _ _; refine Ap hG Y Y ?_)
      | (show AOp _ _ ⟨_, .assign _, _, _, _, _⟩ _ _ _; refine A6 hG Y Y ?_)
      | (show AOp _ _ ⟨_, .call ⟨.value _, _, _⟩, _, _, _, _⟩ _ _ _; first | (refine r_owns Y Y Y Y Y (by first | (apply h <;> (first | assumption | omega | exact Ab _ _ | exact Ae _ | exact Ac _ _ | exact Ag _ | rfl | (simp; omega))) | fail) (fun k => ?_)) | (have := kk; clear this; refine A5 Y Y Y Y Y (Owns.pure (by first | (apply h <;> (first | assumption | omega | exact Ab _ _ | exact Ae _ | exact Ac _ _ | exact Ag _ | rfl | (simp; omega))) | fail)) ?_) | fail)
      | refine r_q hG Y Y Y ?_))
    | (show AL _ _ _ _ _ _ _ _; first | refine al_s Y Y Y ?_ | (refine Au ?_; first | show AW _ _ _ _ _ _ | show ∃ x', _ < _ ∧ _)) | (show AW _ _ (.seq _ _) _ _ _; refine Ai ?_; intro Q1) | (show AW _ _ (.region _ _ false) _ _ _; refine Af ?_; intro O1) | (show AW _ _ (.ret) _ _ _; refine Ar ?_; try dsimp only [Am, Aa, Ao, Ad]) | fail)
  exact ret_owns 0 (Bm rfl Bp) rfl rfl rfl
theorem ref_Less {x y : T} {a b : List UInt16} (hx : catsT x = some a) (hy : catsT y = some b) (ha : Up a) (hb : Up b) (hl : a.length ≤ 4294967000) (hm : b.length ≤ 4294967296) : Owns Try.prog 24 [x, y] 1 ((Bk kLess a b).map hT) := by
  refine Owns.weak (us := [cT a, cT b]) ?_ (wk2 (Bw hx) (Bw hy))
  have h := ref_part (t := false) (Ag a) (Ag b) hl hm
  rw [show partL a b false = Bk kLess a b by rw [← part_less ha hb]; unfold partL; congr 1; funext z; simp] at h
  intro off
  refine Bn (N := 8) (rs := [.tmp 4]) hG Try.func24 rfl rfl rfl rfl rfl ?_
  repeat' (first
    | ((show AL _ _ _ _ _ _ _ _; refine Ah Y ?_); (first
      | (show AOp _ _ ⟨_, .move _, _, _, _, _⟩ _ _ _; refine Ap hG Y Y ?_)
      | (show AOp _ _ ⟨_, .assign _, _, _, _, _⟩ _ _ _; refine A6 hG Y Y ?_)
      | (show AOp _ _ ⟨_, .call ⟨.value _, _, _⟩, _, _, _, _⟩ _ _ _; first | (refine r_owns Y Y Y Y Y (by first | (apply h <;> (first | assumption | omega | exact Ab _ _ | exact Ae _ | exact Ac _ _ | exact Ag _ | rfl | (simp; omega))) | fail) (fun k => ?_)) | (have := kk; clear this; refine A5 Y Y Y Y Y (Owns.pure (by first | (apply h <;> (first | assumption | omega | exact Ab _ _ | exact Ae _ | exact Ac _ _ | exact Ag _ | rfl | (simp; omega))) | fail)) ?_) | fail)
      | refine r_q hG Y Y Y ?_))
    | (show AL _ _ _ _ _ _ _ _; first | refine al_s Y Y Y ?_ | (refine Au ?_; first | show AW _ _ _ _ _ _ | show ∃ x', _ < _ ∧ _)) | (show AW _ _ (.seq _ _) _ _ _; refine Ai ?_; intro Q1) | (show AW _ _ (.region _ _ false) _ _ _; refine Af ?_; intro O1) | (show AW _ _ (.ret) _ _ _; refine Ar ?_; try dsimp only [Am, Aa, Ao, Ad]) | fail)
  exact ret_owns 0 (Bm rfl Bp) rfl rfl rfl
theorem ref_In {x y : T} {a b : List UInt16} {s : Bool} (hx : catsT x = some a) (hy : catsT y = some b) (ha : Up a) (hb : Up b) (hl : a.length ≤ 4294967000) (hm : b.length ≤ 4294967296) (hs : decide (Bk kLess a b = []) = s) : Pure Try.prog 26 [x, y] (.bool s) := by
  refine Pure.weak (us := [cT a, cT b]) ?_ (wk2 (Bw hx) (Bw hy))
  have h := ref_part (t := false) (Ag a) (Ag b) hl hm
  rw [show partL a b false = Bk kLess a b by rw [← part_less ha hb]; unfold partL; congr 1; funext z; simp] at h
  generalize Bk kLess a b = m at *
  intro off
  cases s with
  | true =>
    have hz : m.length = 0 := List.length_eq_zero_iff.2 (of_decide_eq_true hs)
    refine Bn (N := 10) (rs := [.tmp 4]) hG Try.func26 rfl rfl rfl rfl rfl ?_
    repeat' (first
    | ((show AL _ _ _ _ _ _ _ _; refine Ah Y ?_); (first
      | (show AOp _ _ ⟨_, .move _, _, _, _, _⟩ _ _ _; refine Ap hG Y Y ?_)
      | (show AOp _ _ ⟨_, .assign _, _, _, _, _⟩ _ _ _; refine A6 hG Y Y ?_)
      | (show AOp _ _ ⟨_, .call ⟨.builtin .len, _, _⟩, _, _, _, _⟩ _ _ _; first | refine Ay hG Y Y Y Y ?_ | refine Bb hG Y Y Y Y Y ?_)
      | (show AOp _ _ ⟨_, .binOp _ _ _ _ _, _, _, _, _⟩ _ _ _; first | refine Aw hG Y Y Y Y Y (by omega) ?_ | refine Ax hG Y Y Y Y Y (by omega) ?_ | (refine Ak hG Y Y Y Y Y (fun h => ?_) (fun h => ?_)))
      | (show AOp _ _ ⟨_, .call ⟨.value _, _, _⟩, _, _, _, _⟩ _ _ _; first | (refine r_owns Y Y Y Y Y (by first | (apply h <;> (first | assumption | omega | exact Ab _ _ | exact Ae _ | exact Ac _ _ | exact Ag _ | rfl | (simp; omega))) | fail) (fun k => ?_)) | (have := kk; clear this; refine A5 Y Y Y Y Y (Owns.pure (by first | (apply h <;> (first | assumption | omega | exact Ab _ _ | exact Ae _ | exact Ac _ _ | exact Ag _ | rfl | (simp; omega))) | fail)) ?_) | fail)
      | refine r_q hG Y Y Y ?_))
    | (show AL _ _ _ _ _ _ _ _; first | refine al_s Y Y Y ?_ | (refine Au ?_; first | show AW _ _ _ _ _ _ | show ∃ x', _ < _ ∧ _)) | (show AW _ _ (.seq _ _) _ _ _; refine Ai ?_; intro Q1) | (show AW _ _ (.region _ _ false) _ _ _; refine Af ?_; intro O1) | (show AW _ _ (.ret) _ _ _; refine Ar ?_; try dsimp only [Am, Aa, Ao, Ad]) | fail)
    exact Bv (Bm rfl Bp) (.refl _) rfl
  | false =>
    have hz : ¬ (m.length = 0) := fun h => of_decide_eq_false hs (List.length_eq_zero_iff.1 h)
    refine Bn (N := 10) (rs := [.tmp 4]) hG Try.func26 rfl rfl rfl rfl rfl ?_
    repeat' (first
    | ((show AL _ _ _ _ _ _ _ _; refine Ah Y ?_); (first
      | (show AOp _ _ ⟨_, .move _, _, _, _, _⟩ _ _ _; refine Ap hG Y Y ?_)
      | (show AOp _ _ ⟨_, .assign _, _, _, _, _⟩ _ _ _; refine A6 hG Y Y ?_)
      | (show AOp _ _ ⟨_, .call ⟨.builtin .len, _, _⟩, _, _, _, _⟩ _ _ _; first | refine Ay hG Y Y Y Y ?_ | refine Bb hG Y Y Y Y Y ?_)
      | (show AOp _ _ ⟨_, .binOp _ _ _ _ _, _, _, _, _⟩ _ _ _; first | refine Aw hG Y Y Y Y Y (by omega) ?_ | refine Ax hG Y Y Y Y Y (by omega) ?_ | (refine Ak hG Y Y Y Y Y (fun h => ?_) (fun h => ?_)))
      | (show AOp _ _ ⟨_, .call ⟨.value _, _, _⟩, _, _, _, _⟩ _ _ _; first | (refine r_owns Y Y Y Y Y (by first | (apply h <;> (first | assumption | omega | exact Ab _ _ | exact Ae _ | exact Ac _ _ | exact Ag _ | rfl | (simp; omega))) | fail) (fun k => ?_)) | (have := kk; clear this; refine A5 Y Y Y Y Y (Owns.pure (by first | (apply h <;> (first | assumption | omega | exact Ab _ _ | exact Ae _ | exact Ac _ _ | exact Ag _ | rfl | (simp; omega))) | fail)) ?_) | fail)
      | refine r_q hG Y Y Y ?_))
    | (show AL _ _ _ _ _ _ _ _; first | refine al_s Y Y Y ?_ | (refine Au ?_; first | show AW _ _ _ _ _ _ | show ∃ x', _ < _ ∧ _)) | (show AW _ _ (.seq _ _) _ _ _; refine Ai ?_; intro Q1) | (show AW _ _ (.region _ _ false) _ _ _; refine Af ?_; intro O1) | (show AW _ _ (.ret) _ _ _; refine Ar ?_; try dsimp only [Am, Aa, Ao, Ad]) | fail)
    exact Bv (Bm rfl Bp) (.refl _) rfl
def LiveL (l : List UInt16) (off : Nat → Nat → Prop) (u : T) (σ : St) : Prop :=
  (l = [] ∧ u = .nilsl ∧ σ = ⟨[], [], off, none⟩) ∨ (l ≠ [] ∧ ∃ i, u = .aref 1 i 0 l.length none ∧ σ = ⟨[(i, .cells (rowT hT l.toArray))], [], off, none⟩)
structure MLX (a b : List UInt16) where
  a' : List UInt16
  b' : List UInt16
  pre : List UInt16
  i : Nat
  hp : pre ++ Bk kOr a' b' = Bk kOr a b
  hl : pre.length + a'.length + b'.length ≤ a.length + b.length
def mlE : List UInt16 → Nat → T
  | [], _ => .nilsl
  | x :: l, i => .aref 1 i 0 (x :: l).length none
def mlS (off : Nat → Nat → Prop) : List UInt16 → Nat → St
  | [], _ => ⟨[], [], off, none⟩
  | x :: l, i => ⟨[(i, .cells (rowT hT (x :: l).toArray))], [], off, none⟩
theorem row_snoc (l : List UInt16) (c : UInt16) : (rowT hT l.toArray).drop 0 ++ flat [hT c] = rowT hT (l ++ [c]).toArray := by
  unfold rowT; simp [flat, hT_cells]
set_option maxHeartbeats 4000000 in
theorem merge_live {a b : List UInt16} (hl : a.length + b.length ≤ 4294967000) (off : Nat → Nat → Prop) :
    ACalls Try.prog 33 [cT a, cT b, .fn (.func 34) []] ⟨[], [], off, none⟩ (LiveL (Bk kOr a b) off) := by
  have hk := fun i t => cats_Or1 i t
  simp only [kOr] at hk
  refine Bn (N := 72) (rs := [.tmp 6]) hG Try.func33 rfl rfl rfl rfl rfl ?_
  repeat' (first
    | ((first | (show AL _ _ _ _ _ _ _ _; refine Ah Y ?_) | (show DL _ _ _ _ _ _ _; refine' A9 Y Y (fun K kk => ?_) ?_; try (show Go.Ts.T; rotate_left))); (first
      | (show AOp _ _ ⟨_, .move _, _, _, _, _⟩ _ _ _; refine Ap hG Y Y ?_)
      | (show AOp _ _ ⟨_, .assign _, _, _, _, _⟩ _ _ _; refine A6 hG Y Y ?_)
      | (show AOp _ _ ⟨_, .call ⟨.builtin .len, _, _⟩, _, _, _, _⟩ _ _ _; first | refine Ay hG Y Y Y Y ?_ | refine Bb hG Y Y Y Y Y ?_)
      | (show AOp _ _ ⟨_, .binOp .add _ _ _ _, _, _, _, _⟩ _ _ _; first | refine Al hG Y Y Y Y Y (by omega) ?_)
      | (show AOp _ _ ⟨_, .binOp _ _ _ _ _, _, _, _, _⟩ _ _ _; first | refine Aw hG Y Y Y Y Y (by omega) ?_ | refine Ax hG Y Y Y Y Y (by omega) ?_ | ((fail_if_success have := kk); refine Ak hG Y Y Y Y Y (fun h => ?_) (fun h => ?_)))
      | (show AOp _ _ ⟨_, .load _ _, _, _, _, _⟩ _ _ _; first | refine A7 hG Y Y Y ?_ | refine r_ld 0 hG Y Y Y Y ?_)
      | (show AOp _ _ ⟨_, .indexAddr _ _ _, _, _, _, _⟩ _ _ _; first | refine r_idx0 hG Y Y Y Y Y Y Y ?_ | refine Az hG Y Y Y Y Y Y Y (by omega) ?_ | refine A0 hG Y Y Y Y Y Y Y (by omega) ?_ | refine Bd hG Y Y ?_)
      | (show AOp _ _ ⟨_, .slice _ _ _ _ _, _, _, _, _⟩ _ _ _; first | refine A8 hG Y Y Y Y Y Y Y (by omega) ?_ | refine Be hG Y Y Y Y Y Y Y (by omega) ?_ | refine r_sl hG Y Y ?_)
      | (show AOp _ _ ⟨_, .pick _ _ _, _, _, _, _⟩ _ _ _; refine Ba hG Y Y Y ?_)
      | (show AOp _ _ ⟨_, .buildSlice _ _ _, _, _, _, _⟩ _ _ _; first | refine r_mk (sz := 1) hG Y Y Y Y Y Y Y ?_)
      | (show AOp _ _ ⟨_, .call ⟨.builtin .append, _, _⟩, _, _, _, _⟩ _ _ _; first | refine Bg (sz := 1) (xs := []) hG Y Y Y Y Y Y Y ⟨_, Y⟩ Y Y Y Y Y Y Y (by first | omega | (simp; omega)) (fun k => ?_) | refine Bi 0 hG Y Y Y Y Y Y Y ⟨_, Y⟩ Y Y Y Y Y (by first | omega | (simp only [List.length_append, List.length_cons, List.length_nil]; omega)) (fun k => ?_) | fail)
      | refine r_q hG Y Y Y ?_); try exact kk)
    | (show AL _ _ _ _ _ _ _ _; first | refine al_s Y Y Y ?_ | (refine Au ?_; first | show AW _ _ _ _ _ _ | show ∃ x', _ < _ ∧ _)) | (show AW _ _ (.seq _ _) _ _ _; refine Ai ?_; intro Q1) | (show AW _ _ (.region _ _ false) _ _ _; refine Af ?_; intro O1) | (show AW _ _ (.cond _ _ _) _ _ _; first | refine As Y ?_ | refine Av Y ?_) | (show AW _ _ (.skip) _ _ _; refine Aq ?_; first | show AW _ _ _ _ _ _ | show ∃ x', _ < _ ∧ _) | (show AW _ _ (.goto _) _ _ _; refine Bs ?_; try dsimp only [Am, Aa, Ao, Ad]) | (show AW _ _ (.ret) _ _ _; refine Ar ?_; try dsimp only [Am, Aa, Ao, Ad])
    | (show DL _ _ _ _ _ _ _; refine dl_d Y Y (fun K kt kf => Ak hG Y Y Y Y Y kt kf) (fun h => ?_) (fun h => ?_))
    | (show DL _ _ _ _ _ _ _; refine dl_s Y Y Y ?_) | (show DL _ _ _ _ _ _ _; refine Bj ?_; first | show AW _ _ _ _ _ _ | show ∃ x', _ < _ ∧ _) | (show AW _ _ (.region _ _ true) _ _ _; refine A1 mix (by kernel_rfl) ?_; intro O1) | fail)
  refine aw_scope' 0 rfl (X := MLX a b) (fun x => [(0, cT x.a'), (1, cT x.b'), (2, .fn (.func 34) []), (7, mlE x.pre x.i)]) (fun x => mlS off x.pre x.i) (fun x => x.a'.length + x.b'.length) ?_ ?_
  · rintro ⟨a', b', pre, i, hp, hl'⟩
    dsimp only at *
    cases a' with
    | nil =>
      have n1 : ([] : List UInt16).length = 0 := rfl
      cases b' with
      | nil =>
        rw [Bk, List.append_nil] at hp
        rw [← hp]
        cases pre with
        | nil =>
          repeat' (first
    | ((first | (show AL _ _ _ _ _ _ _ _; refine Ah Y ?_) | (show DL _ _ _ _ _ _ _; refine' A9 Y Y (fun K kk => ?_) ?_; try (show Go.Ts.T; rotate_left))); (first
      | (show AOp _ _ ⟨_, .move _, _, _, _, _⟩ _ _ _; refine Ap hG Y Y ?_)
      | (show AOp _ _ ⟨_, .assign _, _, _, _, _⟩ _ _ _; refine A6 hG Y Y ?_)
      | (show AOp _ _ ⟨_, .call ⟨.builtin .len, _, _⟩, _, _, _, _⟩ _ _ _; first | refine Ay hG Y Y Y Y ?_ | refine Bb hG Y Y Y Y Y ?_)
      | (show AOp _ _ ⟨_, .binOp .add _ _ _ _, _, _, _, _⟩ _ _ _; first | refine Al hG Y Y Y Y Y (by omega) ?_)
      | (show AOp _ _ ⟨_, .binOp _ _ _ _ _, _, _, _, _⟩ _ _ _; first | refine Aw hG Y Y Y Y Y (by omega) ?_ | refine Ax hG Y Y Y Y Y (by omega) ?_ | ((fail_if_success have := kk); refine Ak hG Y Y Y Y Y (fun h => ?_) (fun h => ?_)))
      | (show AOp _ _ ⟨_, .load _ _, _, _, _, _⟩ _ _ _; first | refine A7 hG Y Y Y ?_ | refine r_ld 0 hG Y Y Y Y ?_)
      | (show AOp _ _ ⟨_, .indexAddr _ _ _, _, _, _, _⟩ _ _ _; first | refine r_idx0 hG Y Y Y Y Y Y Y ?_ | refine Az hG Y Y Y Y Y Y Y (by omega) ?_ | refine A0 hG Y Y Y Y Y Y Y (by omega) ?_ | refine Bd hG Y Y ?_)
      | (show AOp _ _ ⟨_, .slice _ _ _ _ _, _, _, _, _⟩ _ _ _; first | refine A8 hG Y Y Y Y Y Y Y (by omega) ?_ | refine Be hG Y Y Y Y Y Y Y (by omega) ?_ | refine r_sl hG Y Y ?_)
      | (show AOp _ _ ⟨_, .pick _ _ _, _, _, _, _⟩ _ _ _; refine Ba hG Y Y Y ?_)
      | (show AOp _ _ ⟨_, .buildSlice _ _ _, _, _, _, _⟩ _ _ _; first | refine r_mk (sz := 1) hG Y Y Y Y Y Y Y ?_)
      | (show AOp _ _ ⟨_, .call ⟨.builtin .append, _, _⟩, _, _, _, _⟩ _ _ _; first | refine Bg (sz := 1) (xs := []) hG Y Y Y Y Y Y Y ⟨_, Y⟩ Y Y Y Y Y Y Y (by first | omega | (simp; omega)) (fun k => ?_) | refine Bi 0 hG Y Y Y Y Y Y Y ⟨_, Y⟩ Y Y Y Y Y (by first | omega | (simp only [List.length_append, List.length_cons, List.length_nil]; omega)) (fun k => ?_) | fail)
      | refine r_q hG Y Y Y ?_); try exact kk)
    | (show AL _ _ _ _ _ _ _ _; first | refine al_s Y Y Y ?_ | (refine Au ?_; first | show AW _ _ _ _ _ _ | show ∃ x', _ < _ ∧ _)) | (show AW _ _ (.seq _ _) _ _ _; refine Ai ?_; intro Q1) | (show AW _ _ (.region _ _ false) _ _ _; refine Af ?_; intro O1) | (show AW _ _ (.cond _ _ _) _ _ _; first | refine As Y ?_ | refine Av Y ?_) | (show AW _ _ (.skip) _ _ _; refine Aq ?_; first | show AW _ _ _ _ _ _ | show ∃ x', _ < _ ∧ _) | (show AW _ _ (.goto _) _ _ _; refine Bs ?_; try dsimp only [Am, Aa, Ao, Ad]) | (show AW _ _ (.ret) _ _ _; refine Ar ?_; try dsimp only [Am, Aa, Ao, Ad])
    | (show DL _ _ _ _ _ _ _; refine dl_d Y Y (fun K kt kf => Ak hG Y Y Y Y Y kt kf) (fun h => ?_) (fun h => ?_))
    | (show DL _ _ _ _ _ _ _; refine dl_s Y Y Y ?_) | (show DL _ _ _ _ _ _ _; refine Bj ?_; first | show AW _ _ _ _ _ _ | show ∃ x', _ < _ ∧ _) | (show AW _ _ (.region _ _ true) _ _ _; refine A1 mix (by kernel_rfl) ?_; intro O1) | fail)
          exact ret_live (Bm rfl Bp) (.refl _) (.inl ⟨rfl, rfl, rfl⟩)
        | cons z pre =>
          repeat' (first
    | ((first | (show AL _ _ _ _ _ _ _ _; refine Ah Y ?_) | (show DL _ _ _ _ _ _ _; refine' A9 Y Y (fun K kk => ?_) ?_; try (show Go.Ts.T; rotate_left))); (first
      | (show AOp _ _ ⟨_, .move _, _, _, _, _⟩ _ _ _; refine Ap hG Y Y ?_)
      | (show AOp _ _ ⟨_, .assign _, _, _, _, _⟩ _ _ _; refine A6 hG Y Y ?_)
      | (show AOp _ _ ⟨_, .call ⟨.builtin .len, _, _⟩, _, _, _, _⟩ _ _ _; first | refine Ay hG Y Y Y Y ?_ | refine Bb hG Y Y Y Y Y ?_)
      | (show AOp _ _ ⟨_, .binOp .add _ _ _ _, _, _, _, _⟩ _ _ _; first | refine Al hG Y Y Y Y Y (by omega) ?_)
      | (show AOp _ _ ⟨_, .binOp _ _ _ _ _, _, _, _, _⟩ _ _ _; first | refine Aw hG Y Y Y Y Y (by omega) ?_ | refine Ax hG Y Y Y Y Y (by omega) ?_ | ((fail_if_success have := kk); refine Ak hG Y Y Y Y Y (fun h => ?_) (fun h => ?_)))
      | (show AOp _ _ ⟨_, .load _ _, _, _, _, _⟩ _ _ _; first | refine A7 hG Y Y Y ?_ | refine r_ld 0 hG Y Y Y Y ?_)
      | (show AOp _ _ ⟨_, .indexAddr _ _ _, _, _, _, _⟩ _ _ _; first | refine r_idx0 hG Y Y Y Y Y Y Y ?_ | refine Az hG Y Y Y Y Y Y Y (by omega) ?_ | refine A0 hG Y Y Y Y Y Y Y (by omega) ?_ | refine Bd hG Y Y ?_)
      | (show AOp _ _ ⟨_, .slice _ _ _ _ _, _, _, _, _⟩ _ _ _; first | refine A8 hG Y Y Y Y Y Y Y (by omega) ?_ | refine Be hG Y Y Y Y Y Y Y (by omega) ?_ | refine r_sl hG Y Y ?_)
      | (show AOp _ _ ⟨_, .pick _ _ _, _, _, _, _⟩ _ _ _; refine Ba hG Y Y Y ?_)
      | (show AOp _ _ ⟨_, .buildSlice _ _ _, _, _, _, _⟩ _ _ _; first | refine r_mk (sz := 1) hG Y Y Y Y Y Y Y ?_)
      | (show AOp _ _ ⟨_, .call ⟨.builtin .append, _, _⟩, _, _, _, _⟩ _ _ _; first | refine Bg (sz := 1) (xs := []) hG Y Y Y Y Y Y Y ⟨_, Y⟩ Y Y Y Y Y Y Y (by first | omega | (simp; omega)) (fun k => ?_) | refine Bi 0 hG Y Y Y Y Y Y Y ⟨_, Y⟩ Y Y Y Y Y (by first | omega | (simp only [List.length_append, List.length_cons, List.length_nil]; omega)) (fun k => ?_) | fail)
      | refine r_q hG Y Y Y ?_); try exact kk)
    | (show AL _ _ _ _ _ _ _ _; first | refine al_s Y Y Y ?_ | (refine Au ?_; first | show AW _ _ _ _ _ _ | show ∃ x', _ < _ ∧ _)) | (show AW _ _ (.seq _ _) _ _ _; refine Ai ?_; intro Q1) | (show AW _ _ (.region _ _ false) _ _ _; refine Af ?_; intro O1) | (show AW _ _ (.cond _ _ _) _ _ _; first | refine As Y ?_ | refine Av Y ?_) | (show AW _ _ (.skip) _ _ _; refine Aq ?_; first | show AW _ _ _ _ _ _ | show ∃ x', _ < _ ∧ _) | (show AW _ _ (.goto _) _ _ _; refine Bs ?_; try dsimp only [Am, Aa, Ao, Ad]) | (show AW _ _ (.ret) _ _ _; refine Ar ?_; try dsimp only [Am, Aa, Ao, Ad])
    | (show DL _ _ _ _ _ _ _; refine dl_d Y Y (fun K kt kf => Ak hG Y Y Y Y Y kt kf) (fun h => ?_) (fun h => ?_))
    | (show DL _ _ _ _ _ _ _; refine dl_s Y Y Y ?_) | (show DL _ _ _ _ _ _ _; refine Bj ?_; first | show AW _ _ _ _ _ _ | show ∃ x', _ < _ ∧ _) | (show AW _ _ (.region _ _ true) _ _ _; refine A1 mix (by kernel_rfl) ?_; intro O1) | fail)
          exact ret_live (Bm rfl Bp) (.refl _) (.inr ⟨by simp, i, rfl, rfl⟩)
      | cons y b1 =>
        have n2 : (y :: b1).length = b1.length + 1 := rfl
        rw [Bk] at hp
        cases pre with
        | nil =>
          repeat' (first
    | ((first | (show AL _ _ _ _ _ _ _ _; refine Ah Y ?_) | (show DL _ _ _ _ _ _ _; refine' A9 Y Y (fun K kk => ?_) ?_; try (show Go.Ts.T; rotate_left))); (first
      | (show AOp _ _ ⟨_, .move _, _, _, _, _⟩ _ _ _; refine Ap hG Y Y ?_)
      | (show AOp _ _ ⟨_, .assign _, _, _, _, _⟩ _ _ _; refine A6 hG Y Y ?_)
      | (show AOp _ _ ⟨_, .call ⟨.builtin .len, _, _⟩, _, _, _, _⟩ _ _ _; first | refine Ay hG Y Y Y Y ?_ | refine Bb hG Y Y Y Y Y ?_)
      | (show AOp _ _ ⟨_, .binOp .add _ _ _ _, _, _, _, _⟩ _ _ _; first | refine Al hG Y Y Y Y Y (by omega) ?_)
      | (show AOp _ _ ⟨_, .binOp _ _ _ _ _, _, _, _, _⟩ _ _ _; first | refine Aw hG Y Y Y Y Y (by omega) ?_ | refine Ax hG Y Y Y Y Y (by omega) ?_ | ((fail_if_success have := kk); refine Ak hG Y Y Y Y Y (fun h => ?_) (fun h => ?_)))
      | (show AOp _ _ ⟨_, .load _ _, _, _, _, _⟩ _ _ _; first | refine A7 hG Y Y Y ?_ | refine r_ld 0 hG Y Y Y Y ?_)
      | (show AOp _ _ ⟨_, .indexAddr _ _ _, _, _, _, _⟩ _ _ _; first | refine r_idx0 hG Y Y Y Y Y Y Y ?_ | refine Az hG Y Y Y Y Y Y Y (by omega) ?_ | refine A0 hG Y Y Y Y Y Y Y (by omega) ?_ | refine Bd hG Y Y ?_)
      | (show AOp _ _ ⟨_, .slice _ _ _ _ _, _, _, _, _⟩ _ _ _; first | refine A8 hG Y Y Y Y Y Y Y (by omega) ?_ | refine Be hG Y Y Y Y Y Y Y (by omega) ?_ | refine r_sl hG Y Y ?_)
      | (show AOp _ _ ⟨_, .pick _ _ _, _, _, _, _⟩ _ _ _; refine Ba hG Y Y Y ?_)
      | (show AOp _ _ ⟨_, .buildSlice _ _ _, _, _, _, _⟩ _ _ _; first | refine r_mk (sz := 1) hG Y Y Y Y Y Y Y ?_)
      | (show AOp _ _ ⟨_, .call ⟨.builtin .append, _, _⟩, _, _, _, _⟩ _ _ _; fail)
      | (show AOp _ _ ⟨_, .call ⟨.value _, _, _⟩, _, _, _, _⟩ _ _ _; first | refine A5 Y Y Y Y Y (by first | (apply hk <;> (first | assumption | omega | exact Ab _ _ | exact Ae _ | exact Ac _ _ | exact Ag _ | rfl | (simp; omega))) | fail) ?_ | fail)
      | refine r_q hG Y Y Y ?_); try exact kk)
    | (show AL _ _ _ _ _ _ _ _; first | refine al_s Y Y Y ?_ | (refine Au ?_; first | show AW _ _ _ _ _ _ | show ∃ x', _ < _ ∧ _)) | (show AW _ _ (.seq _ _) _ _ _; refine Ai ?_; intro Q1) | (show AW _ _ (.region _ _ false) _ _ _; refine Af ?_; intro O1) | (show AW _ _ (.cond _ _ _) _ _ _; first | refine As Y ?_ | refine Av Y ?_) | (show AW _ _ (.skip) _ _ _; refine Aq ?_; first | show AW _ _ _ _ _ _ | show ∃ x', _ < _ ∧ _) | (show AW _ _ (.goto _) _ _ _; refine Bs ?_; try dsimp only [Am, Aa, Ao, Ad]) | (show AW _ _ (.ret) _ _ _; refine Ar ?_; try dsimp only [Am, Aa, Ao, Ad])
    | (show DL _ _ _ _ _ _ _; refine dl_d Y Y (fun K kt kf => Ak hG Y Y Y Y Y kt kf) (fun h => ?_) (fun h => ?_))
    | (show DL _ _ _ _ _ _ _; refine dl_s Y Y Y ?_) | (show DL _ _ _ _ _ _ _; refine Bj ?_; first | show AW _ _ _ _ _ _ | show ∃ x', _ < _ ∧ _) | (show AW _ _ (.region _ _ true) _ _ _; refine A1 mix (by kernel_rfl) ?_; intro O1) | fail)
          refine Ah rfl (aop_app0L (objs := fun _ => none) hG rfl rfl rfl rfl rfl ⟨_, rfl⟩ rfl rfl (fun i o h => by cases h) rfl rfl (by simp) (by simp) rfl (fun i' hi' => ?_))
          repeat' (first
    | ((first | (show AL _ _ _ _ _ _ _ _; refine Ah Y ?_) | (show DL _ _ _ _ _ _ _; refine' A9 Y Y (fun K kk => ?_) ?_; try (show Go.Ts.T; rotate_left))); (first
      | (show AOp _ _ ⟨_, .move _, _, _, _, _⟩ _ _ _; refine Ap hG Y Y ?_)
      | (show AOp _ _ ⟨_, .assign _, _, _, _, _⟩ _ _ _; refine A6 hG Y Y ?_)
      | (show AOp _ _ ⟨_, .call ⟨.builtin .len, _, _⟩, _, _, _, _⟩ _ _ _; first | refine Ay hG Y Y Y Y ?_ | refine Bb hG Y Y Y Y Y ?_)
      | (show AOp _ _ ⟨_, .binOp .add _ _ _ _, _, _, _, _⟩ _ _ _; first | refine Al hG Y Y Y Y Y (by omega) ?_)
      | (show AOp _ _ ⟨_, .binOp _ _ _ _ _, _, _, _, _⟩ _ _ _; first | refine Aw hG Y Y Y Y Y (by omega) ?_ | refine Ax hG Y Y Y Y Y (by omega) ?_ | ((fail_if_success have := kk); refine Ak hG Y Y Y Y Y (fun h => ?_) (fun h => ?_)))
      | (show AOp _ _ ⟨_, .load _ _, _, _, _, _⟩ _ _ _; first | refine A7 hG Y Y Y ?_ | refine r_ld 0 hG Y Y Y Y ?_)
      | (show AOp _ _ ⟨_, .indexAddr _ _ _, _, _, _, _⟩ _ _ _; first | refine r_idx0 hG Y Y Y Y Y Y Y ?_ | refine Az hG Y Y Y Y Y Y Y (by omega) ?_ | refine A0 hG Y Y Y Y Y Y Y (by omega) ?_ | refine Bd hG Y Y ?_)
      | (show AOp _ _ ⟨_, .slice _ _ _ _ _, _, _, _, _⟩ _ _ _; first | refine A8 hG Y Y Y Y Y Y Y (by omega) ?_ | refine Be hG Y Y Y Y Y Y Y (by omega) ?_ | refine r_sl hG Y Y ?_)
      | (show AOp _ _ ⟨_, .pick _ _ _, _, _, _, _⟩ _ _ _; refine Ba hG Y Y Y ?_)
      | (show AOp _ _ ⟨_, .buildSlice _ _ _, _, _, _, _⟩ _ _ _; first | refine r_mk (sz := 1) hG Y Y Y Y Y Y Y ?_)
      | (show AOp _ _ ⟨_, .call ⟨.builtin .append, _, _⟩, _, _, _, _⟩ _ _ _; first | refine Bg (sz := 1) (xs := []) hG Y Y Y Y Y Y Y ⟨_, Y⟩ Y Y Y Y Y Y Y (by first | omega | (simp; omega)) (fun k => ?_) | refine Bi 0 hG Y Y Y Y Y Y Y ⟨_, Y⟩ Y Y Y Y Y (by first | omega | (simp only [List.length_append, List.length_cons, List.length_nil]; omega)) (fun k => ?_) | fail)
      | (show AOp _ _ ⟨_, .call ⟨.value _, _, _⟩, _, _, _, _⟩ _ _ _; first | refine A5 Y Y Y Y Y (by first | (apply hk <;> (first | assumption | omega | exact Ab _ _ | exact Ae _ | exact Ac _ _ | exact Ag _ | rfl | (simp; omega))) | fail) ?_ | fail)
      | refine r_q hG Y Y Y ?_); try exact kk)
    | (show AL _ _ _ _ _ _ _ _; first | refine al_s Y Y Y ?_ | (refine Au ?_; first | show AW _ _ _ _ _ _ | show ∃ x', _ < _ ∧ _)) | (show AW _ _ (.seq _ _) _ _ _; refine Ai ?_; intro Q1) | (show AW _ _ (.region _ _ false) _ _ _; refine Af ?_; intro O1) | (show AW _ _ (.cond _ _ _) _ _ _; first | refine As Y ?_ | refine Av Y ?_) | (show AW _ _ (.skip) _ _ _; refine Aq ?_; first | show AW _ _ _ _ _ _ | show ∃ x', _ < _ ∧ _) | (show AW _ _ (.goto _) _ _ _; refine Bs ?_; try dsimp only [Am, Aa, Ao, Ad]) | (show AW _ _ (.ret) _ _ _; refine Ar ?_; try dsimp only [Am, Aa, Ao, Ad])
    | (show DL _ _ _ _ _ _ _; refine dl_d Y Y (fun K kt kf => Ak hG Y Y Y Y Y kt kf) (fun h => ?_) (fun h => ?_))
    | (show DL _ _ _ _ _ _ _; refine dl_s Y Y Y ?_) | (show DL _ _ _ _ _ _ _; refine Bj ?_; first | show AW _ _ _ _ _ _ | show ∃ x', _ < _ ∧ _) | (show AW _ _ (.region _ _ true) _ _ _; refine A1 mix (by kernel_rfl) ?_; intro O1) | fail)
          exact ⟨rfl, ⟨[], b1, [y], i', by simpa [kOr] using hp, by simp only [List.length_cons, List.length_append, List.length_nil] at *; omega⟩, by simp only [List.length_cons]; omega, .consW rfl (.eq (by simp [cT])) (.consW rfl (.eq (by simp [cT])) (.cons rfl (.consW rfl (.eq rfl) (.nil _)))), .refl _⟩
        | cons z pre =>
          repeat' (first
    | ((first | (show AL _ _ _ _ _ _ _ _; refine Ah Y ?_) | (show DL _ _ _ _ _ _ _; refine' A9 Y Y (fun K kk => ?_) ?_; try (show Go.Ts.T; rotate_left))); (first
      | (show AOp _ _ ⟨_, .move _, _, _, _, _⟩ _ _ _; refine Ap hG Y Y ?_)
      | (show AOp _ _ ⟨_, .assign _, _, _, _, _⟩ _ _ _; refine A6 hG Y Y ?_)
      | (show AOp _ _ ⟨_, .call ⟨.builtin .len, _, _⟩, _, _, _, _⟩ _ _ _; first | refine Ay hG Y Y Y Y ?_ | refine Bb hG Y Y Y Y Y ?_)
      | (show AOp _ _ ⟨_, .binOp .add _ _ _ _, _, _, _, _⟩ _ _ _; first | refine Al hG Y Y Y Y Y (by omega) ?_)
      | (show AOp _ _ ⟨_, .binOp _ _ _ _ _, _, _, _, _⟩ _ _ _; first | refine Aw hG Y Y Y Y Y (by omega) ?_ | refine Ax hG Y Y Y Y Y (by omega) ?_ | ((fail_if_success have := kk); refine Ak hG Y Y Y Y Y (fun h => ?_) (fun h => ?_)))
      | (show AOp _ _ ⟨_, .load _ _, _, _, _, _⟩ _ _ _; first | refine A7 hG Y Y Y ?_ | refine r_ld 0 hG Y Y Y Y ?_)
      | (show AOp _ _ ⟨_, .indexAddr _ _ _, _, _, _, _⟩ _ _ _; first | refine r_idx0 hG Y Y Y Y Y Y Y ?_ | refine Az hG Y Y Y Y Y Y Y (by omega) ?_ | refine A0 hG Y Y Y Y Y Y Y (by omega) ?_ | refine Bd hG Y Y ?_)
      | (show AOp _ _ ⟨_, .slice _ _ _ _ _, _, _, _, _⟩ _ _ _; first | refine A8 hG Y Y Y Y Y Y Y (by omega) ?_ | refine Be hG Y Y Y Y Y Y Y (by omega) ?_ | refine r_sl hG Y Y ?_)
      | (show AOp _ _ ⟨_, .pick _ _ _, _, _, _, _⟩ _ _ _; refine Ba hG Y Y Y ?_)
      | (show AOp _ _ ⟨_, .buildSlice _ _ _, _, _, _, _⟩ _ _ _; first | refine r_mk (sz := 1) hG Y Y Y Y Y Y Y ?_)
      | (show AOp _ _ ⟨_, .call ⟨.builtin .append, _, _⟩, _, _, _, _⟩ _ _ _; fail)
      | (show AOp _ _ ⟨_, .call ⟨.value _, _, _⟩, _, _, _, _⟩ _ _ _; first | refine A5 Y Y Y Y Y (by first | (apply hk <;> (first | assumption | omega | exact Ab _ _ | exact Ae _ | exact Ac _ _ | exact Ag _ | rfl | (simp; omega))) | fail) ?_ | fail)
      | refine r_q hG Y Y Y ?_); try exact kk)
    | (show AL _ _ _ _ _ _ _ _; first | refine al_s Y Y Y ?_ | (refine Au ?_; first | show AW _ _ _ _ _ _ | show ∃ x', _ < _ ∧ _)) | (show AW _ _ (.seq _ _) _ _ _; refine Ai ?_; intro Q1) | (show AW _ _ (.region _ _ false) _ _ _; refine Af ?_; intro O1) | (show AW _ _ (.cond _ _ _) _ _ _; first | refine As Y ?_ | refine Av Y ?_) | (show AW _ _ (.skip) _ _ _; refine Aq ?_; first | show AW _ _ _ _ _ _ | show ∃ x', _ < _ ∧ _) | (show AW _ _ (.goto _) _ _ _; refine Bs ?_; try dsimp only [Am, Aa, Ao, Ad]) | (show AW _ _ (.ret) _ _ _; refine Ar ?_; try dsimp only [Am, Aa, Ao, Ad])
    | (show DL _ _ _ _ _ _ _; refine dl_d Y Y (fun K kt kf => Ak hG Y Y Y Y Y kt kf) (fun h => ?_) (fun h => ?_))
    | (show DL _ _ _ _ _ _ _; refine dl_s Y Y Y ?_) | (show DL _ _ _ _ _ _ _; refine Bj ?_; first | show AW _ _ _ _ _ _ | show ∃ x', _ < _ ∧ _) | (show AW _ _ (.region _ _ true) _ _ _; refine A1 mix (by kernel_rfl) ?_; intro O1) | fail)
          refine Ah rfl (aop_appL (n := 0) (objs := fun _ => none) hG rfl rfl rfl rfl rfl ⟨_, rfl⟩ rfl rfl ?_ rfl (fun i o h => by cases h) rfl rfl ?_ ?_ rfl (fun i' hi' => ?_))
          · simp [rowT_length]
          · intro q hq; simp [flat, hT_cells] at hq; subst hq; rfl
          · simp only [List.length_cons, List.length_nil] at *; omega
          repeat' (first
    | ((first | (show AL _ _ _ _ _ _ _ _; refine Ah Y ?_) | (show DL _ _ _ _ _ _ _; refine' A9 Y Y (fun K kk => ?_) ?_; try (show Go.Ts.T; rotate_left))); (first
      | (show AOp _ _ ⟨_, .move _, _, _, _, _⟩ _ _ _; refine Ap hG Y Y ?_)
      | (show AOp _ _ ⟨_, .assign _, _, _, _, _⟩ _ _ _; refine A6 hG Y Y ?_)
      | (show AOp _ _ ⟨_, .call ⟨.builtin .len, _, _⟩, _, _, _, _⟩ _ _ _; first | refine Ay hG Y Y Y Y ?_ | refine Bb hG Y Y Y Y Y ?_)
      | (show AOp _ _ ⟨_, .binOp .add _ _ _ _, _, _, _, _⟩ _ _ _; first | refine Al hG Y Y Y Y Y (by omega) ?_)
      | (show AOp _ _ ⟨_, .binOp _ _ _ _ _, _, _, _, _⟩ _ _ _; first | refine Aw hG Y Y Y Y Y (by omega) ?_ | refine Ax hG Y Y Y Y Y (by omega) ?_ | ((fail_if_success have := kk); refine Ak hG Y Y Y Y Y (fun h => ?_) (fun h => ?_)))
      | (show AOp _ _ ⟨_, .load _ _, _, _, _, _⟩ _ _ _; first | refine A7 hG Y Y Y ?_ | refine r_ld 0 hG Y Y Y Y ?_)
      | (show AOp _ _ ⟨_, .indexAddr _ _ _, _, _, _, _⟩ _ _ _; first | refine r_idx0 hG Y Y Y Y Y Y Y ?_ | refine Az hG Y Y Y Y Y Y Y (by omega) ?_ | refine A0 hG Y Y Y Y Y Y Y (by omega) ?_ | refine Bd hG Y Y ?_)
      | (show AOp _ _ ⟨_, .slice _ _ _ _ _, _, _, _, _⟩ _ _ _; first | refine A8 hG Y Y Y Y Y Y Y (by omega) ?_ | refine Be hG Y Y Y Y Y Y Y (by omega) ?_ | refine r_sl hG Y Y ?_)
      | (show AOp _ _ ⟨_, .pick _ _ _, _, _, _, _⟩ _ _ _; refine Ba hG Y Y Y ?_)
      | (show AOp _ _ ⟨_, .buildSlice _ _ _, _, _, _, _⟩ _ _ _; first | refine r_mk (sz := 1) hG Y Y Y Y Y Y Y ?_)
      | (show AOp _ _ ⟨_, .call ⟨.builtin .append, _, _⟩, _, _, _, _⟩ _ _ _; first | refine Bg (sz := 1) (xs := []) hG Y Y Y Y Y Y Y ⟨_, Y⟩ Y Y Y Y Y Y Y (by first | omega | (simp; omega)) (fun k => ?_) | refine Bi 0 hG Y Y Y Y Y Y Y ⟨_, Y⟩ Y Y Y Y Y (by first | omega | (simp only [List.length_append, List.length_cons, List.length_nil]; omega)) (fun k => ?_) | fail)
      | (show AOp _ _ ⟨_, .call ⟨.value _, _, _⟩, _, _, _, _⟩ _ _ _; first | refine A5 Y Y Y Y Y (by first | (apply hk <;> (first | assumption | omega | exact Ab _ _ | exact Ae _ | exact Ac _ _ | exact Ag _ | rfl | (simp; omega))) | fail) ?_ | fail)
      | refine r_q hG Y Y Y ?_); try exact kk)
    | (show AL _ _ _ _ _ _ _ _; first | refine al_s Y Y Y ?_ | (refine Au ?_; first | show AW _ _ _ _ _ _ | show ∃ x', _ < _ ∧ _)) | (show AW _ _ (.seq _ _) _ _ _; refine Ai ?_; intro Q1) | (show AW _ _ (.region _ _ false) _ _ _; refine Af ?_; intro O1) | (show AW _ _ (.cond _ _ _) _ _ _; first | refine As Y ?_ | refine Av Y ?_) | (show AW _ _ (.skip) _ _ _; refine Aq ?_; first | show AW _ _ _ _ _ _ | show ∃ x', _ < _ ∧ _) | (show AW _ _ (.goto _) _ _ _; refine Bs ?_; try dsimp only [Am, Aa, Ao, Ad]) | (show AW _ _ (.ret) _ _ _; refine Ar ?_; try dsimp only [Am, Aa, Ao, Ad])
    | (show DL _ _ _ _ _ _ _; refine dl_d Y Y (fun K kt kf => Ak hG Y Y Y Y Y kt kf) (fun h => ?_) (fun h => ?_))
    | (show DL _ _ _ _ _ _ _; refine dl_s Y Y Y ?_) | (show DL _ _ _ _ _ _ _; refine Bj ?_; first | show AW _ _ _ _ _ _ | show ∃ x', _ < _ ∧ _) | (show AW _ _ (.region _ _ true) _ _ _; refine A1 mix (by kernel_rfl) ?_; intro O1) | fail)
          exact ⟨rfl, ⟨[], b1, z :: pre ++ [y], i', by simpa [kOr] using hp, by simp only [List.length_cons, List.length_append, List.length_nil] at *; omega⟩, by simp only [List.length_cons]; omega, .consW rfl (.eq (by simp [cT])) (.consW rfl (.eq (by simp [cT])) (.cons rfl (.consW rfl (.eq (by simp [mlE])) (.nil _)))), by
            show Go.Ts.GStep ⟨[(i', .cells ((rowT hT (z :: pre).toArray).drop 0 ++ flat [hT y]))], [], off, none⟩ _
            rw [row_snoc]; exact .refl _⟩
    | cons x a1 =>
      have n1 : (x :: a1).length = a1.length + 1 := rfl
      cases b' with
      | nil =>
        have n2 : ([] : List UInt16).length = 0 := rfl
        rw [Bk] at hp
        cases pre with
        | nil =>
          repeat' (first
    | ((first | (show AL _ _ _ _ _ _ _ _; refine Ah Y ?_) | (show DL _ _ _ _ _ _ _; refine' A9 Y Y (fun K kk => ?_) ?_; try (show Go.Ts.T; rotate_left))); (first
      | (show AOp _ _ ⟨_, .move _, _, _, _, _⟩ _ _ _; refine Ap hG Y Y ?_)
      | (show AOp _ _ ⟨_, .assign _, _, _, _, _⟩ _ _ _; refine A6 hG Y Y ?_)
      | (show AOp _ _ ⟨_, .call ⟨.builtin .len, _, _⟩, _, _, _, _⟩ _ _ _; first | refine Ay hG Y Y Y Y ?_ | refine Bb hG Y Y Y Y Y ?_)
      | (show AOp _ _ ⟨_, .binOp .add _ _ _ _, _, _, _, _⟩ _ _ _; first | refine Al hG Y Y Y Y Y (by omega) ?_)
      | (show AOp _ _ ⟨_, .binOp _ _ _ _ _, _, _, _, _⟩ _ _ _; first | refine Aw hG Y Y Y Y Y (by omega) ?_ | refine Ax hG Y Y Y Y Y (by omega) ?_ | ((fail_if_success have := kk); refine Ak hG Y Y Y Y Y (fun h => ?_) (fun h => ?_)))
      | (show AOp _ _ ⟨_, .load _ _, _, _, _, _⟩ _ _ _; first | refine A7 hG Y Y Y ?_ | refine r_ld 0 hG Y Y Y Y ?_)
      | (show AOp _ _ ⟨_, .indexAddr _ _ _, _, _, _, _⟩ _ _ _; first | refine r_idx0 hG Y Y Y Y Y Y Y ?_ | refine Az hG Y Y Y Y Y Y Y (by omega) ?_ | refine A0 hG Y Y Y Y Y Y Y (by omega) ?_ | refine Bd hG Y Y ?_)
      | (show AOp _ _ ⟨_, .slice _ _ _ _ _, _, _, _, _⟩ _ _ _; first | refine A8 hG Y Y Y Y Y Y Y (by omega) ?_ | refine Be hG Y Y Y Y Y Y Y (by omega) ?_ | refine r_sl hG Y Y ?_)
      | (show AOp _ _ ⟨_, .pick _ _ _, _, _, _, _⟩ _ _ _; refine Ba hG Y Y Y ?_)
      | (show AOp _ _ ⟨_, .buildSlice _ _ _, _, _, _, _⟩ _ _ _; first | refine r_mk (sz := 1) hG Y Y Y Y Y Y Y ?_)
      | (show AOp _ _ ⟨_, .call ⟨.builtin .append, _, _⟩, _, _, _, _⟩ _ _ _; fail)
      | (show AOp _ _ ⟨_, .call ⟨.value _, _, _⟩, _, _, _, _⟩ _ _ _; first | refine A5 Y Y Y Y Y (by first | (apply hk <;> (first | assumption | omega | exact Ab _ _ | exact Ae _ | exact Ac _ _ | exact Ag _ | rfl | (simp; omega))) | fail) ?_ | fail)
      | refine r_q hG Y Y Y ?_); try exact kk)
    | (show AL _ _ _ _ _ _ _ _; first | refine al_s Y Y Y ?_ | (refine Au ?_; first | show AW _ _ _ _ _ _ | show ∃ x', _ < _ ∧ _)) | (show AW _ _ (.seq _ _) _ _ _; refine Ai ?_; intro Q1) | (show AW _ _ (.region _ _ false) _ _ _; refine Af ?_; intro O1) | (show AW _ _ (.cond _ _ _) _ _ _; first | refine As Y ?_ | refine Av Y ?_) | (show AW _ _ (.skip) _ _ _; refine Aq ?_; first | show AW _ _ _ _ _ _ | show ∃ x', _ < _ ∧ _) | (show AW _ _ (.goto _) _ _ _; refine Bs ?_; try dsimp only [Am, Aa, Ao, Ad]) | (show AW _ _ (.ret) _ _ _; refine Ar ?_; try dsimp only [Am, Aa, Ao, Ad])
    | (show DL _ _ _ _ _ _ _; refine dl_d Y Y (fun K kt kf => Ak hG Y Y Y Y Y kt kf) (fun h => ?_) (fun h => ?_))
    | (show DL _ _ _ _ _ _ _; refine dl_s Y Y Y ?_) | (show DL _ _ _ _ _ _ _; refine Bj ?_; first | show AW _ _ _ _ _ _ | show ∃ x', _ < _ ∧ _) | (show AW _ _ (.region _ _ true) _ _ _; refine A1 mix (by kernel_rfl) ?_; intro O1) | fail)
          refine Ah rfl (aop_app0L (objs := fun _ => none) hG rfl rfl rfl rfl rfl ⟨_, rfl⟩ rfl rfl (fun i o h => by cases h) rfl rfl (by simp) (by simp) rfl (fun i' hi' => ?_))
          repeat' (first
    | ((first | (show AL _ _ _ _ _ _ _ _; refine Ah Y ?_) | (show DL _ _ _ _ _ _ _; refine' A9 Y Y (fun K kk => ?_) ?_; try (show Go.Ts.T; rotate_left))); (first
      | (show AOp _ _ ⟨_, .move _, _, _, _, _⟩ _ _ _; refine Ap hG Y Y ?_)
      | (show AOp _ _ ⟨_, .assign _, _, _, _, _⟩ _ _ _; refine A6 hG Y Y ?_)
      | (show AOp _ _ ⟨_, .call ⟨.builtin .len, _, _⟩, _, _, _, _⟩ _ _ _; first | refine Ay hG Y Y Y Y ?_ | refine Bb hG Y Y Y Y Y ?_)
      | (show AOp _ _ ⟨_, .binOp .add _ _ _ _, _, _, _, _⟩ _ _ _; first | refine Al hG Y Y Y Y Y (by omega) ?_)
      | (show AOp _ _ ⟨_, .binOp _ _ _ _ _, _, _, _, _⟩ _ _ _; first | refine Aw hG Y Y Y Y Y (by omega) ?_ | refine Ax hG Y Y Y Y Y (by omega) ?_ | ((fail_if_success have := kk); refine Ak hG Y Y Y Y Y (fun h => ?_) (fun h => ?_)))
      | (show AOp _ _ ⟨_, .load _ _, _, _, _, _⟩ _ _ _; first | refine A7 hG Y Y Y ?_ | refine r_ld 0 hG Y Y Y Y ?_)
      | (show AOp _ _ ⟨_, .indexAddr _ _ _, _, _, _, _⟩ _ _ _; first | refine r_idx0 hG Y Y Y Y Y Y Y ?_ | refine Az hG Y Y Y Y Y Y Y (by omega) ?_ | refine A0 hG Y Y Y Y Y Y Y (by omega) ?_ | refine Bd hG Y Y ?_)
      | (show AOp _ _ ⟨_, .slice _ _ _ _ _, _, _, _, _⟩ _ _ _; first | refine A8 hG Y Y Y Y Y Y Y (by omega) ?_ | refine Be hG Y Y Y Y Y Y Y (by omega) ?_ | refine r_sl hG Y Y ?_)
      | (show AOp _ _ ⟨_, .pick _ _ _, _, _, _, _⟩ _ _ _; refine Ba hG Y Y Y ?_)
      | (show AOp _ _ ⟨_, .buildSlice _ _ _, _, _, _, _⟩ _ _ _; first | refine r_mk (sz := 1) hG Y Y Y Y Y Y Y ?_)
      | (show AOp _ _ ⟨_, .call ⟨.builtin .append, _, _⟩, _, _, _, _⟩ _ _ _; first | refine Bg (sz := 1) (xs := []) hG Y Y Y Y Y Y Y ⟨_, Y⟩ Y Y Y Y Y Y Y (by first | omega | (simp; omega)) (fun k => ?_) | refine Bi 0 hG Y Y Y Y Y Y Y ⟨_, Y⟩ Y Y Y Y Y (by first | omega | (simp only [List.length_append, List.length_cons, List.length_nil]; omega)) (fun k => ?_) | fail)
      | (show AOp _ _ ⟨_, .call ⟨.value _, _, _⟩, _, _, _, _⟩ _ _ _; first | refine A5 Y Y Y Y Y (by first | (apply hk <;> (first | assumption | omega | exact Ab _ _ | exact Ae _ | exact Ac _ _ | exact Ag _ | rfl | (simp; omega))) | fail) ?_ | fail)
      | refine r_q hG Y Y Y ?_); try exact kk)
    | (show AL _ _ _ _ _ _ _ _; first | refine al_s Y Y Y ?_ | (refine Au ?_; first | show AW _ _ _ _ _ _ | show ∃ x', _ < _ ∧ _)) | (show AW _ _ (.seq _ _) _ _ _; refine Ai ?_; intro Q1) | (show AW _ _ (.region _ _ false) _ _ _; refine Af ?_; intro O1) | (show AW _ _ (.cond _ _ _) _ _ _; first | refine As Y ?_ | refine Av Y ?_) | (show AW _ _ (.skip) _ _ _; refine Aq ?_; first | show AW _ _ _ _ _ _ | show ∃ x', _ < _ ∧ _) | (show AW _ _ (.goto _) _ _ _; refine Bs ?_; try dsimp only [Am, Aa, Ao, Ad]) | (show AW _ _ (.ret) _ _ _; refine Ar ?_; try dsimp only [Am, Aa, Ao, Ad])
    | (show DL _ _ _ _ _ _ _; refine dl_d Y Y (fun K kt kf => Ak hG Y Y Y Y Y kt kf) (fun h => ?_) (fun h => ?_))
    | (show DL _ _ _ _ _ _ _; refine dl_s Y Y Y ?_) | (show DL _ _ _ _ _ _ _; refine Bj ?_; first | show AW _ _ _ _ _ _ | show ∃ x', _ < _ ∧ _) | (show AW _ _ (.region _ _ true) _ _ _; refine A1 mix (by kernel_rfl) ?_; intro O1) | fail)
          exact ⟨rfl, ⟨a1, [], [x], i', by simpa [kOr] using hp, by simp only [List.length_cons, List.length_append, List.length_nil] at *; omega⟩, by simp only [List.length_cons]; omega, .consW rfl (.eq (by simp [cT])) (.consW rfl (.eq (by simp [cT])) (.cons rfl (.consW rfl (.eq rfl) (.nil _)))), .refl _⟩
        | cons z pre =>
          repeat' (first
    | ((first | (show AL _ _ _ _ _ _ _ _; refine Ah Y ?_) | (show DL _ _ _ _ _ _ _; refine' A9 Y Y (fun K kk => ?_) ?_; try (show Go.Ts.T; rotate_left))); (first
      | (show AOp _ _ ⟨_, .move _, _, _, _, _⟩ _ _ _; refine Ap hG Y Y ?_)
      | (show AOp _ _ ⟨_, .assign _, _, _, _, _⟩ _ _ _; refine A6 hG Y Y ?_)
      | (show AOp _ _ ⟨_, .call ⟨.builtin .len, _, _⟩, _, _, _, _⟩ _ _ _; first | refine Ay hG Y Y Y Y ?_ | refine Bb hG Y Y Y Y Y ?_)
      | (show AOp _ _ ⟨_, .binOp .add _ _ _ _, _, _, _, _⟩ _ _ _; first | refine Al hG Y Y Y Y Y (by omega) ?_)
      | (show AOp _ _ ⟨_, .binOp _ _ _ _ _, _, _, _, _⟩ _ _ _; first | refine Aw hG Y Y Y Y Y (by omega) ?_ | refine Ax hG Y Y Y Y Y (by omega) ?_ | ((fail_if_success have := kk); refine Ak hG Y Y Y Y Y (fun h => ?_) (fun h => ?_)))
      | (show AOp _ _ ⟨_, .load _ _, _, _, _, _⟩ _ _ _; first | refine A7 hG Y Y Y ?_ | refine r_ld 0 hG Y Y Y Y ?_)
      | (show AOp _ _ ⟨_, .indexAddr _ _ _, _, _, _, _⟩ _ _ _; first | refine r_idx0 hG Y Y Y Y Y Y Y ?_ | refine Az hG Y Y Y Y Y Y Y (by omega) ?_ | refine A0 hG Y Y Y Y Y Y Y (by omega) ?_ | refine Bd hG Y Y ?_)
      | (show AOp _ _ ⟨_, .slice _ _ _ _ _, _, _, _, _⟩ _ _ _; first | refine A8 hG Y Y Y Y Y Y Y (by omega) ?_ | refine Be hG Y Y Y Y Y Y Y (by omega) ?_ | refine r_sl hG Y Y ?_)
      | (show AOp _ _ ⟨_, .pick _ _ _, _, _, _, _⟩ _ _ _; refine Ba hG Y Y Y ?_)
      | (show AOp _ _ ⟨_, .buildSlice _ _ _, _, _, _, _⟩ _ _ _; first | refine r_mk (sz := 1) hG Y Y Y Y Y Y Y ?_)
      | (show AOp _ _ ⟨_, .call ⟨.builtin .append, _, _⟩, _, _, _, _⟩ _ _ _; fail)
      | (show AOp _ _ ⟨_, .call ⟨.value _, _, _⟩, _, _, _, _⟩ _ _ _; first | refine A5 Y Y Y Y Y (by first | (apply hk <;> (first | assumption | omega | exact Ab _ _ | exact Ae _ | exact Ac _ _ | exact Ag _ | rfl | (simp; omega))) | fail) ?_ | fail)
      | refine r_q hG Y Y Y ?_); try exact kk)
    | (show AL _ _ _ _ _ _ _ _; first | refine al_s Y Y Y ?_ | (refine Au ?_; first | show AW _ _ _ _ _ _ | show ∃ x', _ < _ ∧ _)) | (show AW _ _ (.seq _ _) _ _ _; refine Ai ?_; intro Q1) | (show AW _ _ (.region _ _ false) _ _ _; refine Af ?_; intro O1) | (show AW _ _ (.cond _ _ _) _ _ _; first | refine As Y ?_ | refine Av Y ?_) | (show AW _ _ (.skip) _ _ _; refine Aq ?_; first | show AW _ _ _ _ _ _ | show ∃ x', _ < _ ∧ _) | (show AW _ _ (.goto _) _ _ _; refine Bs ?_; try dsimp only [Am, Aa, Ao, Ad]) | (show AW _ _ (.ret) _ _ _; refine Ar ?_; try dsimp only [Am, Aa, Ao, Ad])
    | (show DL _ _ _ _ _ _ _; refine dl_d Y Y (fun K kt kf => Ak hG Y Y Y Y Y kt kf) (fun h => ?_) (fun h => ?_))
    | (show DL _ _ _ _ _ _ _; refine dl_s Y Y Y ?_) | (show DL _ _ _ _ _ _ _; refine Bj ?_; first | show AW _ _ _ _ _ _ | show ∃ x', _ < _ ∧ _) | (show AW _ _ (.region _ _ true) _ _ _; refine A1 mix (by kernel_rfl) ?_; intro O1) | fail)
          refine Ah rfl (aop_appL (n := 0) (objs := fun _ => none) hG rfl rfl rfl rfl rfl ⟨_, rfl⟩ rfl rfl ?_ rfl (fun i o h => by cases h) rfl rfl ?_ ?_ rfl (fun i' hi' => ?_))
          · simp [rowT_length]
          · intro q hq; simp [flat, hT_cells] at hq; subst hq; rfl
          · simp only [List.length_cons, List.length_nil] at *; omega
          repeat' (first
    | ((first | (show AL _ _ _ _ _ _ _ _; refine Ah Y ?_) | (show DL _ _ _ _ _ _ _; refine' A9 Y Y (fun K kk => ?_) ?_; try (show Go.Ts.T; rotate_left))); (first
      | (show AOp _ _ ⟨_, .move _, _, _, _, _⟩ _ _ _; refine Ap hG Y Y ?_)
      | (show AOp _ _ ⟨_, .assign _, _, _, _, _⟩ _ _ _; refine A6 hG Y Y ?_)
      | (show AOp _ _ ⟨_, .call ⟨.builtin .len, _, _⟩, _, _, _, _⟩ _ _ _; first | refine Ay hG Y Y Y Y ?_ | refine Bb hG Y Y Y Y Y ?_)
      | (show AOp _ _ ⟨_, .binOp .add _ _ _ _, _, _, _, _⟩ _ _ _; first | refine Al hG Y Y Y Y Y (by omega) ?_)
      | (show AOp _ _ ⟨_, .binOp _ _ _ _ _, _, _, _, _⟩ _ _ _; first | refine Aw hG Y Y Y Y Y (by omega) ?_ | refine Ax hG Y Y Y Y Y (by omega) ?_ | ((fail_if_success have := kk); refine Ak hG Y Y Y Y Y (fun h => ?_) (fun h => ?_)))
      | (show AOp _ _ ⟨_, .load _ _, _, _, _, _⟩ _ _ _; first | refine A7 hG Y Y Y ?_ | refine r_ld 0 hG Y Y Y Y ?_)
      | (show AOp _ _ ⟨_, .indexAddr _ _ _, _, _, _, _⟩ _ _ _; first | refine r_idx0 hG Y Y Y Y Y Y Y ?_ | refine Az hG Y Y Y Y Y Y Y (by omega) ?_ | refine A0 hG Y Y Y Y Y Y Y (by omega) ?_ | refine Bd hG Y Y ?_)
      | (show AOp _ _ ⟨_, .slice _ _ _ _ _, _, _, _, _⟩ _ _ _; first | refine A8 hG Y Y Y Y Y Y Y (by omega) ?_ | refine Be hG Y Y Y Y Y Y Y (by omega) ?_ | refine r_sl hG Y Y ?_)
      | (show AOp _ _ ⟨_, .pick _ _ _, _, _, _, _⟩ _ _ _; refine Ba hG Y Y Y ?_)
      | (show AOp _ _ ⟨_, .buildSlice _ _ _, _, _, _, _⟩ _ _ _; first | refine r_mk (sz := 1) hG Y Y Y Y Y Y Y ?_)
      | (show AOp _ _ ⟨_, .call ⟨.builtin .append, _, _⟩, _, _, _, _⟩ _ _ _; first | refine Bg (sz := 1) (xs := []) hG Y Y Y Y Y Y Y ⟨_, Y⟩ Y Y Y Y Y Y Y (by first | omega | (simp; omega)) (fun k => ?_) | refine Bi 0 hG Y Y Y Y Y Y Y ⟨_, Y⟩ Y Y Y Y Y (by first | omega | (simp only [List.length_append, List.length_cons, List.length_nil]; omega)) (fun k => ?_) | fail)
      | (show AOp _ _ ⟨_, .call ⟨.value _, _, _⟩, _, _, _, _⟩ _ _ _; first | refine A5 Y Y Y Y Y (by first | (apply hk <;> (first | assumption | omega | exact Ab _ _ | exact Ae _ | exact Ac _ _ | exact Ag _ | rfl | (simp; omega))) | fail) ?_ | fail)
      | refine r_q hG Y Y Y ?_); try exact kk)
    | (show AL _ _ _ _ _ _ _ _; first | refine al_s Y Y Y ?_ | (refine Au ?_; first | show AW _ _ _ _ _ _ | show ∃ x', _ < _ ∧ _)) | (show AW _ _ (.seq _ _) _ _ _; refine Ai ?_; intro Q1) | (show AW _ _ (.region _ _ false) _ _ _; refine Af ?_; intro O1) | (show AW _ _ (.cond _ _ _) _ _ _; first | refine As Y ?_ | refine Av Y ?_) | (show AW _ _ (.skip) _ _ _; refine Aq ?_; first | show AW _ _ _ _ _ _ | show ∃ x', _ < _ ∧ _) | (show AW _ _ (.goto _) _ _ _; refine Bs ?_; try dsimp only [Am, Aa, Ao, Ad]) | (show AW _ _ (.ret) _ _ _; refine Ar ?_; try dsimp only [Am, Aa, Ao, Ad])
    | (show DL _ _ _ _ _ _ _; refine dl_d Y Y (fun K kt kf => Ak hG Y Y Y Y Y kt kf) (fun h => ?_) (fun h => ?_))
    | (show DL _ _ _ _ _ _ _; refine dl_s Y Y Y ?_) | (show DL _ _ _ _ _ _ _; refine Bj ?_; first | show AW _ _ _ _ _ _ | show ∃ x', _ < _ ∧ _) | (show AW _ _ (.region _ _ true) _ _ _; refine A1 mix (by kernel_rfl) ?_; intro O1) | fail)
          exact ⟨rfl, ⟨a1, [], z :: pre ++ [x], i', by simpa [kOr] using hp, by simp only [List.length_cons, List.length_append, List.length_nil] at *; omega⟩, by simp only [List.length_cons]; omega, .consW rfl (.eq (by simp [cT])) (.consW rfl (.eq (by simp [cT])) (.cons rfl (.consW rfl (.eq (by simp [mlE])) (.nil _)))), by
            show Go.Ts.GStep ⟨[(i', .cells ((rowT hT (z :: pre).toArray).drop 0 ++ flat [hT x]))], [], off, none⟩ _
            rw [row_snoc]; exact .refl _⟩
      | cons y b1 =>
        have n2 : (y :: b1).length = b1.length + 1 := rfl
        rw [Bk] at hp
        by_cases h1 : x < y
        · rw [if_pos h1] at hp
          rw [← hT_lt] at h1
          cases pre with
          | nil =>
            repeat' (first
    | ((first | (show AL _ _ _ _ _ _ _ _; refine Ah Y ?_) | (show DL _ _ _ _ _ _ _; refine' A9 Y Y (fun K kk => ?_) ?_; try (show Go.Ts.T; rotate_left))); (first
      | (show AOp _ _ ⟨_, .move _, _, _, _, _⟩ _ _ _; refine Ap hG Y Y ?_)
      | (show AOp _ _ ⟨_, .assign _, _, _, _, _⟩ _ _ _; refine A6 hG Y Y ?_)
      | (show AOp _ _ ⟨_, .call ⟨.builtin .len, _, _⟩, _, _, _, _⟩ _ _ _; first | refine Ay hG Y Y Y Y ?_ | refine Bb hG Y Y Y Y Y ?_)
      | (show AOp _ _ ⟨_, .binOp .add _ _ _ _, _, _, _, _⟩ _ _ _; first | refine Al hG Y Y Y Y Y (by omega) ?_)
      | (show AOp _ _ ⟨_, .binOp _ _ _ _ _, _, _, _, _⟩ _ _ _; first | refine Aw hG Y Y Y Y Y (by omega) ?_ | refine Ax hG Y Y Y Y Y (by omega) ?_ | ((fail_if_success have := kk); refine Ak hG Y Y Y Y Y (fun h => ?_) (fun h => ?_)))
      | (show AOp _ _ ⟨_, .load _ _, _, _, _, _⟩ _ _ _; first | refine A7 hG Y Y Y ?_ | refine r_ld 0 hG Y Y Y Y ?_)
      | (show AOp _ _ ⟨_, .indexAddr _ _ _, _, _, _, _⟩ _ _ _; first | refine r_idx0 hG Y Y Y Y Y Y Y ?_ | refine Az hG Y Y Y Y Y Y Y (by omega) ?_ | refine A0 hG Y Y Y Y Y Y Y (by omega) ?_ | refine Bd hG Y Y ?_)
      | (show AOp _ _ ⟨_, .slice _ _ _ _ _, _, _, _, _⟩ _ _ _; first | refine A8 hG Y Y Y Y Y Y Y (by omega) ?_ | refine Be hG Y Y Y Y Y Y Y (by omega) ?_ | refine r_sl hG Y Y ?_)
      | (show AOp _ _ ⟨_, .pick _ _ _, _, _, _, _⟩ _ _ _; refine Ba hG Y Y Y ?_)
      | (show AOp _ _ ⟨_, .buildSlice _ _ _, _, _, _, _⟩ _ _ _; first | refine r_mk (sz := 1) hG Y Y Y Y Y Y Y ?_)
      | (show AOp _ _ ⟨_, .call ⟨.builtin .append, _, _⟩, _, _, _, _⟩ _ _ _; fail)
      | (show AOp _ _ ⟨_, .call ⟨.value _, _, _⟩, _, _, _, _⟩ _ _ _; first | refine A5 Y Y Y Y Y (by first | (apply hk <;> (first | assumption | omega | exact Ab _ _ | exact Ae _ | exact Ac _ _ | exact Ag _ | rfl | (simp; omega))) | fail) ?_ | fail)
      | refine r_q hG Y Y Y ?_); try exact kk)
    | (show AL _ _ _ _ _ _ _ _; first | refine al_s Y Y Y ?_ | (refine Au ?_; first | show AW _ _ _ _ _ _ | show ∃ x', _ < _ ∧ _)) | (show AW _ _ (.seq _ _) _ _ _; refine Ai ?_; intro Q1) | (show AW _ _ (.region _ _ false) _ _ _; refine Af ?_; intro O1) | (show AW _ _ (.cond _ _ _) _ _ _; first | refine As Y ?_ | refine Av Y ?_) | (show AW _ _ (.skip) _ _ _; refine Aq ?_; first | show AW _ _ _ _ _ _ | show ∃ x', _ < _ ∧ _) | (show AW _ _ (.goto _) _ _ _; refine Bs ?_; try dsimp only [Am, Aa, Ao, Ad]) | (show AW _ _ (.ret) _ _ _; refine Ar ?_; try dsimp only [Am, Aa, Ao, Ad])
    | (show DL _ _ _ _ _ _ _; refine dl_d Y Y (fun K kt kf => Ak hG Y Y Y Y Y kt kf) (fun h => ?_) (fun h => ?_))
    | (show DL _ _ _ _ _ _ _; refine dl_s Y Y Y ?_) | (show DL _ _ _ _ _ _ _; refine Bj ?_; first | show AW _ _ _ _ _ _ | show ∃ x', _ < _ ∧ _) | (show AW _ _ (.region _ _ true) _ _ _; refine A1 mix (by kernel_rfl) ?_; intro O1) | fail)
            refine Ah rfl (aop_app0L (objs := fun _ => none) hG rfl rfl rfl rfl rfl ⟨_, rfl⟩ rfl rfl (fun i o h => by cases h) rfl rfl (by simp) (by simp) rfl (fun i' hi' => ?_))
            repeat' (first
    | ((first | (show AL _ _ _ _ _ _ _ _; refine Ah Y ?_) | (show DL _ _ _ _ _ _ _; refine' A9 Y Y (fun K kk => ?_) ?_; try (show Go.Ts.T; rotate_left))); (first
      | (show AOp _ _ ⟨_, .move _, _, _, _, _⟩ _ _ _; refine Ap hG Y Y ?_)
      | (show AOp _ _ ⟨_, .assign _, _, _, _, _⟩ _ _ _; refine A6 hG Y Y ?_)
      | (show AOp _ _ ⟨_, .call ⟨.builtin .len, _, _⟩, _, _, _, _⟩ _ _ _; first | refine Ay hG Y Y Y Y ?_ | refine Bb hG Y Y Y Y Y ?_)
      | (show AOp _ _ ⟨_, .binOp .add _ _ _ _, _, _, _, _⟩ _ _ _; first | refine Al hG Y Y Y Y Y (by omega) ?_)
      | (show AOp _ _ ⟨_, .binOp _ _ _ _ _, _, _, _, _⟩ _ _ _; first | refine Aw hG Y Y Y Y Y (by omega) ?_ | refine Ax hG Y Y Y Y Y (by omega) ?_ | ((fail_if_success have := kk); refine Ak hG Y Y Y Y Y (fun h => ?_) (fun h => ?_)))
      | (show AOp _ _ ⟨_, .load _ _, _, _, _, _⟩ _ _ _; first | refine A7 hG Y Y Y ?_ | refine r_ld 0 hG Y Y Y Y ?_)
      | (show AOp _ _ ⟨_, .indexAddr _ _ _, _, _, _, _⟩ _ _ _; first | refine r_idx0 hG Y Y Y Y Y Y Y ?_ | refine Az hG Y Y Y Y Y Y Y (by omega) ?_ | refine A0 hG Y Y Y Y Y Y Y (by omega) ?_ | refine Bd hG Y Y ?_)
      | (show AOp _ _ ⟨_, .slice _ _ _ _ _, _, _, _, _⟩ _ _ _; first | refine A8 hG Y Y Y Y Y Y Y (by omega) ?_ | refine Be hG Y Y Y Y Y Y Y (by omega) ?_ | refine r_sl hG Y Y ?_)
      | (show AOp _ _ ⟨_, .pick _ _ _, _, _, _, _⟩ _ _ _; refine Ba hG Y Y Y ?_)
      | (show AOp _ _ ⟨_, .buildSlice _ _ _, _, _, _, _⟩ _ _ _; first | refine r_mk (sz := 1) hG Y Y Y Y Y Y Y ?_)
      | (show AOp _ _ ⟨_, .call ⟨.builtin .append, _, _⟩, _, _, _, _⟩ _ _ _; first | refine Bg (sz := 1) (xs := []) hG Y Y Y Y Y Y Y ⟨_, Y⟩ Y Y Y Y Y Y Y (by first | omega | (simp; omega)) (fun k => ?_) | refine Bi 0 hG Y Y Y Y Y Y Y ⟨_, Y⟩ Y Y Y Y Y (by first | omega | (simp only [List.length_append, List.length_cons, List.length_nil]; omega)) (fun k => ?_) | fail)
      | (show AOp _ _ ⟨_, .call ⟨.value _, _, _⟩, _, _, _, _⟩ _ _ _; first | refine A5 Y Y Y Y Y (by first | (apply hk <;> (first | assumption | omega | exact Ab _ _ | exact Ae _ | exact Ac _ _ | exact Ag _ | rfl | (simp; omega))) | fail) ?_ | fail)
      | refine r_q hG Y Y Y ?_); try exact kk)
    | (show AL _ _ _ _ _ _ _ _; first | refine al_s Y Y Y ?_ | (refine Au ?_; first | show AW _ _ _ _ _ _ | show ∃ x', _ < _ ∧ _)) | (show AW _ _ (.seq _ _) _ _ _; refine Ai ?_; intro Q1) | (show AW _ _ (.region _ _ false) _ _ _; refine Af ?_; intro O1) | (show AW _ _ (.cond _ _ _) _ _ _; first | refine As Y ?_ | refine Av Y ?_) | (show AW _ _ (.skip) _ _ _; refine Aq ?_; first | show AW _ _ _ _ _ _ | show ∃ x', _ < _ ∧ _) | (show AW _ _ (.goto _) _ _ _; refine Bs ?_; try dsimp only [Am, Aa, Ao, Ad]) | (show AW _ _ (.ret) _ _ _; refine Ar ?_; try dsimp only [Am, Aa, Ao, Ad])
    | (show DL _ _ _ _ _ _ _; refine dl_d Y Y (fun K kt kf => Ak hG Y Y Y Y Y kt kf) (fun h => ?_) (fun h => ?_))
    | (show DL _ _ _ _ _ _ _; refine dl_s Y Y Y ?_) | (show DL _ _ _ _ _ _ _; refine Bj ?_; first | show AW _ _ _ _ _ _ | show ∃ x', _ < _ ∧ _) | (show AW _ _ (.region _ _ true) _ _ _; refine A1 mix (by kernel_rfl) ?_; intro O1) | fail)
            exact ⟨rfl, ⟨a1, y :: b1, [x], i', by simpa [kOr] using hp, by simp only [List.length_cons, List.length_append, List.length_nil] at *; omega⟩, by simp only [List.length_cons]; omega, .consW rfl (.eq (by simp [cT])) (.consW rfl (.eq (by simp [cT])) (.cons rfl (.consW rfl (.eq rfl) (.nil _)))), .refl _⟩
          | cons z pre =>
            repeat' (first
    | ((first | (show AL _ _ _ _ _ _ _ _; refine Ah Y ?_) | (show DL _ _ _ _ _ _ _; refine' A9 Y Y (fun K kk => ?_) ?_; try (show Go.Ts.T; rotate_left))); (first
      | (show AOp _ _ ⟨_, .move _, _, _, _, _⟩ _ _ _; refine Ap hG Y Y ?_)
      | (show AOp _ _ ⟨_, .assign _, _, _, _, _⟩ _ _ _; refine A6 hG Y Y ?_)
      | (show AOp _ _ ⟨_, .call ⟨.builtin .len, _, _⟩, _, _, _, _⟩ _ _ _; first | refine Ay hG Y Y Y Y ?_ | refine Bb hG Y Y Y Y Y ?_)
      | (show AOp _ _ ⟨_, .binOp .add _ _ _ _, _, _, _, _⟩ _ _ _; first | refine Al hG Y Y Y Y Y (by omega) ?_)
      | (show AOp _ _ ⟨_, .binOp _ _ _ _ _, _, _, _, _⟩ _ _ _; first | refine Aw hG Y Y Y Y Y (by omega) ?_ | refine Ax hG Y Y Y Y Y (by omega) ?_ | ((fail_if_success have := kk); refine Ak hG Y Y Y Y Y (fun h => ?_) (fun h => ?_)))
      | (show AOp _ _ ⟨_, .load _ _, _, _, _, _⟩ _ _ _; first | refine A7 hG Y Y Y ?_ | refine r_ld 0 hG Y Y Y Y ?_)
      | (show AOp _ _ ⟨_, .indexAddr _ _ _, _, _, _, _⟩ _ _ _; first | refine r_idx0 hG Y Y Y Y Y Y Y ?_ | refine Az hG Y Y Y Y Y Y Y (by omega) ?_ | refine A0 hG Y Y Y Y Y Y Y (by omega) ?_ | refine Bd hG Y Y ?_)
      | (show AOp _ _ ⟨_, .slice _ _ _ _ _, _, _, _, _⟩ _ _ _; first | refine A8 hG Y Y Y Y Y Y Y (by omega) ?_ | refine Be hG Y Y Y Y Y Y Y (by omega) ?_ | refine r_sl hG Y Y ?_)
      | (show AOp _ _ ⟨_, .pick _ _ _, _, _, _, _⟩ _ _ _; refine Ba hG Y Y Y ?_)
      | (show AOp _ _ ⟨_, .buildSlice _ _ _, _, _, _, _⟩ _ _ _; first | refine r_mk (sz := 1) hG Y Y Y Y Y Y Y ?_)
      | (show AOp _ _ ⟨_, .call ⟨.builtin .append, _, _⟩, _, _, _, _⟩ _ _ _; fail)
      | (show AOp _ _ ⟨_, .call ⟨.value _, _, _⟩, _, _, _, _⟩ _ _ _; first | refine A5 Y Y Y Y Y (by first | (apply hk <;> (first | assumption | omega | exact Ab _ _ | exact Ae _ | exact Ac _ _ | exact Ag _ | rfl | (simp; omega))) | fail) ?_ | fail)
      | refine r_q hG Y Y Y ?_); try exact kk)
    | (show AL _ _ _ _ _ _ _ _; first | refine al_s Y Y Y ?_ | (refine Au ?_; first | show AW _ _ _ _ _ _ | show ∃ x', _ < _ ∧ _)) | (show AW _ _ (.seq _ _) _ _ _; refine Ai ?_; intro Q1) | (show AW _ _ (.region _ _ false) _ _ _; refine Af ?_; intro O1) | (show AW _ _ (.cond _ _ _) _ _ _; first | refine As Y ?_ | refine Av Y ?_) | (show AW _ _ (.skip) _ _ _; refine Aq ?_; first | show AW _ _ _ _ _ _ | show ∃ x', _ < _ ∧ _) | (show AW _ _ (.goto _) _ _ _; refine Bs ?_; try dsimp only [Am, Aa, Ao, Ad]) | (show AW _ _ (.ret) _ _ _; refine Ar ?_; try dsimp only [Am, Aa, Ao, Ad])
    | (show DL _ _ _ _ _ _ _; refine dl_d Y Y (fun K kt kf => Ak hG Y Y Y Y Y kt kf) (fun h => ?_) (fun h => ?_))
    | (show DL _ _ _ _ _ _ _; refine dl_s Y Y Y ?_) | (show DL _ _ _ _ _ _ _; refine Bj ?_; first | show AW _ _ _ _ _ _ | show ∃ x', _ < _ ∧ _) | (show AW _ _ (.region _ _ true) _ _ _; refine A1 mix (by kernel_rfl) ?_; intro O1) | fail)
            refine Ah rfl (aop_appL (n := 0) (objs := fun _ => none) hG rfl rfl rfl rfl rfl ⟨_, rfl⟩ rfl rfl ?_ rfl (fun i o h => by cases h) rfl rfl ?_ ?_ rfl (fun i' hi' => ?_))
            · simp [rowT_length]
            · intro q hq; simp [flat, hT_cells] at hq; subst hq; rfl
            · simp only [List.length_cons, List.length_nil] at *; omega
            repeat' (first
    | ((first | (show AL _ _ _ _ _ _ _ _; refine Ah Y ?_) | (show DL _ _ _ _ _ _ _; refine' A9 Y Y (fun K kk => ?_) ?_; try (show Go.Ts.T; rotate_left))); (first
      | (show AOp _ _ ⟨_, .move _, _, _, _, _⟩ _ _ _; refine Ap hG Y Y ?_)
      | (show AOp _ _ ⟨_, .assign _, _, _, _, _⟩ _ _ _; refine A6 hG Y Y ?_)
      | (show AOp _ _ ⟨_, .call ⟨.builtin .len, _, _⟩, _, _, _, _⟩ _ _ _; first | refine Ay hG Y Y Y Y ?_ | refine Bb hG Y Y Y Y Y ?_)
      | (show AOp _ _ ⟨_, .binOp .add _ _ _ _, _, _, _, _⟩ _ _ _; first | refine Al hG Y Y Y Y Y (by omega) ?_)
      | (show AOp _ _ ⟨_, .binOp _ _ _ _ _, _, _, _, _⟩ _ _ _; first | refine Aw hG Y Y Y Y Y (by omega) ?_ | refine Ax hG Y Y Y Y Y (by omega) ?_ | ((fail_if_success have := kk); refine Ak hG Y Y Y Y Y (fun h => ?_) (fun h => ?_)))
      | (show AOp _ _ ⟨_, .load _ _, _, _, _, _⟩ _ _ _; first | refine A7 hG Y Y Y ?_ | refine r_ld 0 hG Y Y Y Y ?_)
      | (show AOp _ _ ⟨_, .indexAddr _ _ _, _, _, _, _⟩ _ _ _; first | refine r_idx0 hG Y Y Y Y Y Y Y ?_ | refine Az hG Y Y Y Y Y Y Y (by omega) ?_ | refine A0 hG Y Y Y Y Y Y Y (by omega) ?_ | refine Bd hG Y Y ?_)
      | (show AOp _ _ ⟨_, .slice _ _ _ _ _, _, _, _, _⟩ _ _ _; first | refine A8 hG Y Y Y Y Y Y Y (by omega) ?_ | refine Be hG Y Y Y Y Y Y Y (by omega) ?_ | refine r_sl hG Y Y ?_)
      | (show AOp _ _ ⟨_, .pick _ _ _, _, _, _, _⟩ _ _ _; refine Ba hG Y Y Y ?_)
      | (show AOp _ _ ⟨_, .buildSlice _ _ _, _, _, _, _⟩ _ _ _; first | refine r_mk (sz := 1) hG Y Y Y Y Y Y Y ?_)
      | (show AOp _ _ ⟨_, .call ⟨.builtin .append, _, _⟩, _, _, _, _⟩ _ _ _; first | refine Bg (sz := 1) (xs := []) hG Y Y Y Y Y Y Y ⟨_, Y⟩ Y Y Y Y Y Y Y (by first | omega | (simp; omega)) (fun k => ?_) | refine Bi 0 hG Y Y Y Y Y Y Y ⟨_, Y⟩ Y Y Y Y Y (by first | omega | (simp only [List.length_append, List.length_cons, List.length_nil]; omega)) (fun k => ?_) | fail)
      | (show AOp _ _ ⟨_, .call ⟨.value _, _, _⟩, _, _, _, _⟩ _ _ _; first | refine A5 Y Y Y Y Y (by first | (apply hk <;> (first | assumption | omega | exact Ab _ _ | exact Ae _ | exact Ac _ _ | exact Ag _ | rfl | (simp; omega))) | fail) ?_ | fail)
      | refine r_q hG Y Y Y ?_); try exact kk)
    | (show AL _ _ _ _ _ _ _ _; first | refine al_s Y Y Y ?_ | (refine Au ?_; first | show AW _ _ _ _ _ _ | show ∃ x', _ < _ ∧ _)) | (show AW _ _ (.seq _ _) _ _ _; refine Ai ?_; intro Q1) | (show AW _ _ (.region _ _ false) _ _ _; refine Af ?_; intro O1) | (show AW _ _ (.cond _ _ _) _ _ _; first | refine As Y ?_ | refine Av Y ?_) | (show AW _ _ (.skip) _ _ _; refine Aq ?_; first | show AW _ _ _ _ _ _ | show ∃ x', _ < _ ∧ _) | (show AW _ _ (.goto _) _ _ _; refine Bs ?_; try dsimp only [Am, Aa, Ao, Ad]) | (show AW _ _ (.ret) _ _ _; refine Ar ?_; try dsimp only [Am, Aa, Ao, Ad])
    | (show DL _ _ _ _ _ _ _; refine dl_d Y Y (fun K kt kf => Ak hG Y Y Y Y Y kt kf) (fun h => ?_) (fun h => ?_))
    | (show DL _ _ _ _ _ _ _; refine dl_s Y Y Y ?_) | (show DL _ _ _ _ _ _ _; refine Bj ?_; first | show AW _ _ _ _ _ _ | show ∃ x', _ < _ ∧ _) | (show AW _ _ (.region _ _ true) _ _ _; refine A1 mix (by kernel_rfl) ?_; intro O1) | fail)
            exact ⟨rfl, ⟨a1, y :: b1, z :: pre ++ [x], i', by simpa [kOr] using hp, by simp only [List.length_cons, List.length_append, List.length_nil] at *; omega⟩, by simp only [List.length_cons]; omega, .consW rfl (.eq (by simp [cT])) (.consW rfl (.eq (by simp [cT])) (.cons rfl (.consW rfl (.eq (by simp [mlE])) (.nil _)))), by
              show Go.Ts.GStep ⟨[(i', .cells ((rowT hT (z :: pre).toArray).drop 0 ++ flat [hT x]))], [], off, none⟩ _
              rw [row_snoc]; exact .refl _⟩
        · rw [if_neg h1] at hp
          rw [← hT_lt] at h1
          by_cases h2 : y < x
          · rw [if_pos h2] at hp
            rw [← hT_lt] at h2
            cases pre with
            | nil =>
              repeat' (first
    | ((first | (show AL _ _ _ _ _ _ _ _; refine Ah Y ?_) | (show DL _ _ _ _ _ _ _; refine' A9 Y Y (fun K kk => ?_) ?_; try (show Go.Ts.T; rotate_left))); (first
      | (show AOp _ _ ⟨_, .move _, _, _, _, _⟩ _ _ _; refine Ap hG Y Y ?_)
      | (show AOp _ _ ⟨_, .assign _, _, _, _, _⟩ _ _ _; refine A6 hG Y Y ?_)
      | (show AOp _ _ ⟨_, .call ⟨.builtin .len, _, _⟩, _, _, _, _⟩ _ _ _; first | refine Ay hG Y Y Y Y ?_ | refine Bb hG Y Y Y Y Y ?_)
      | (show AOp _ _ ⟨_, .binOp .add _ _ _ _, _, _, _, _⟩ _ _ _; first | refine Al hG Y Y Y Y Y (by omega) ?_)
      | (show AOp _ _ ⟨_, .binOp _ _ _ _ _, _, _, _, _⟩ _ _ _; first | refine Aw hG Y Y Y Y Y (by omega) ?_ | refine Ax hG Y Y Y Y Y (by omega) ?_ | ((fail_if_success have := kk); refine Ak hG Y Y Y Y Y (fun h => ?_) (fun h => ?_)))
      | (show AOp _ _ ⟨_, .load _ _, _, _, _, _⟩ _ _ _; first | refine A7 hG Y Y Y ?_ | refine r_ld 0 hG Y Y Y Y ?_)
      | (show AOp _ _ ⟨_, .indexAddr _ _ _, _, _, _, _⟩ _ _ _; first | refine r_idx0 hG Y Y Y Y Y Y Y ?_ | refine Az hG Y Y Y Y Y Y Y (by omega) ?_ | refine A0 hG Y Y Y Y Y Y Y (by omega) ?_ | refine Bd hG Y Y ?_)
      | (show AOp _ _ ⟨_, .slice _ _ _ _ _, _, _, _, _⟩ _ _ _; first | refine A8 hG Y Y Y Y Y Y Y (by omega) ?_ | refine Be hG Y Y Y Y Y Y Y (by omega) ?_ | refine r_sl hG Y Y ?_)
      | (show AOp _ _ ⟨_, .pick _ _ _, _, _, _, _⟩ _ _ _; refine Ba hG Y Y Y ?_)
      | (show AOp _ _ ⟨_, .buildSlice _ _ _, _, _, _, _⟩ _ _ _; first | refine r_mk (sz := 1) hG Y Y Y Y Y Y Y ?_)
      | (show AOp _ _ ⟨_, .call ⟨.builtin .append, _, _⟩, _, _, _, _⟩ _ _ _; fail)
      | (show AOp _ _ ⟨_, .call ⟨.value _, _, _⟩, _, _, _, _⟩ _ _ _; first | refine A5 Y Y Y Y Y (by first | (apply hk <;> (first | assumption | omega | exact Ab _ _ | exact Ae _ | exact Ac _ _ | exact Ag _ | rfl | (simp; omega))) | fail) ?_ | fail)
      | refine r_q hG Y Y Y ?_); try exact kk)
    | (show AL _ _ _ _ _ _ _ _; first | refine al_s Y Y Y ?_ | (refine Au ?_; first | show AW _ _ _ _ _ _ | show ∃ x', _ < _ ∧ _)) | (show AW _ _ (.seq _ _) _ _ _; refine Ai ?_; intro Q1) | (show AW _ _ (.region _ _ false) _ _ _; refine Af ?_; intro O1) | (show AW _ _ (.cond _ _ _) _ _ _; first | refine As Y ?_ | refine Av Y ?_) | (show AW _ _ (.skip) _ _ _; refine Aq ?_; first | show AW _ _ _ _ _ _ | show ∃ x', _ < _ ∧ _) | (show AW _ _ (.goto _) _ _ _; refine Bs ?_; try dsimp only [Am, Aa, Ao, Ad]) | (show AW _ _ (.ret) _ _ _; refine Ar ?_; try dsimp only [Am, Aa, Ao, Ad])
    | (show DL _ _ _ _ _ _ _; refine dl_d Y Y (fun K kt kf => Ak hG Y Y Y Y Y kt kf) (fun h => ?_) (fun h => ?_))
    | (show DL _ _ _ _ _ _ _; refine dl_s Y Y Y ?_) | (show DL _ _ _ _ _ _ _; refine Bj ?_; first | show AW _ _ _ _ _ _ | show ∃ x', _ < _ ∧ _) | (show AW _ _ (.region _ _ true) _ _ _; refine A1 mix (by kernel_rfl) ?_; intro O1) | fail)
              refine Ah rfl (aop_app0L (objs := fun _ => none) hG rfl rfl rfl rfl rfl ⟨_, rfl⟩ rfl rfl (fun i o h => by cases h) rfl rfl (by simp) (by simp) rfl (fun i' hi' => ?_))
              repeat' (first
    | ((first | (show AL _ _ _ _ _ _ _ _; refine Ah Y ?_) | (show DL _ _ _ _ _ _ _; refine' A9 Y Y (fun K kk => ?_) ?_; try (show Go.Ts.T; rotate_left))); (first
      | (show AOp _ _ ⟨_, .move _, _, _, _, _⟩ _ _ _; refine Ap hG Y Y ?_)
      | (show AOp _ _ ⟨_, .assign _, _, _, _, _⟩ _ _ _; refine A6 hG Y Y ?_)
      | (show AOp _ _ ⟨_, .call ⟨.builtin .len, _, _⟩, _, _, _, _⟩ _ _ _; first | refine Ay hG Y Y Y Y ?_ | refine Bb hG Y Y Y Y Y ?_)
      | (show AOp _ _ ⟨_, .binOp .add _ _ _ _, _, _, _, _⟩ _ _ _; first | refine Al hG Y Y Y Y Y (by omega) ?_)
      | (show AOp _ _ ⟨_, .binOp _ _ _ _ _, _, _, _, _⟩ _ _ _; first | refine Aw hG Y Y Y Y Y (by omega) ?_ | refine Ax hG Y Y Y Y Y (by omega) ?_ | ((fail_if_success have := kk); refine Ak hG Y Y Y Y Y (fun h => ?_) (fun h => ?_)))
      | (show AOp _ _ ⟨_, .load _ _, _, _, _, _⟩ _ _ _; first | refine A7 hG Y Y Y ?_ | refine r_ld 0 hG Y Y Y Y ?_)
      | (show AOp _ _ ⟨_, .indexAddr _ _ _, _, _, _, _⟩ _ _ _; first | refine r_idx0 hG Y Y Y Y Y Y Y ?_ | refine Az hG Y Y Y Y Y Y Y (by omega) ?_ | refine A0 hG Y Y Y Y Y Y Y (by omega) ?_ | refine Bd hG Y Y ?_)
      | (show AOp _ _ ⟨_, .slice _ _ _ _ _, _, _, _, _⟩ _ _ _; first | refine A8 hG Y Y Y Y Y Y Y (by omega) ?_ | refine Be hG Y Y Y Y Y Y Y (by omega) ?_ | refine r_sl hG Y Y ?_)
      | (show AOp _ _ ⟨_, .pick _ _ _, _, _, _, _⟩ _ _ _; refine Ba hG Y Y Y ?_)
      | (show AOp _ _ ⟨_, .buildSlice _ _ _, _, _, _, _⟩ _ _ _; first | refine r_mk (sz := 1) hG Y Y Y Y Y Y Y ?_)
      | (show AOp _ _ ⟨_, .call ⟨.builtin .append, _, _⟩, _, _, _, _⟩ _ _ _; first | refine Bg (sz := 1) (xs := []) hG Y Y Y Y Y Y Y ⟨_, Y⟩ Y Y Y Y Y Y Y (by first | omega | (simp; omega)) (fun k => ?_) | refine Bi 0 hG Y Y Y Y Y Y Y ⟨_, Y⟩ Y Y Y Y Y (by first | omega | (simp only [List.length_append, List.length_cons, List.length_nil]; omega)) (fun k => ?_) | fail)
      | (show AOp _ _ ⟨_, .call ⟨.value _, _, _⟩, _, _, _, _⟩ _ _ _; first | refine A5 Y Y Y Y Y (by first | (apply hk <;> (first | assumption | omega | exact Ab _ _ | exact Ae _ | exact Ac _ _ | exact Ag _ | rfl | (simp; omega))) | fail) ?_ | fail)
      | refine r_q hG Y Y Y ?_); try exact kk)
    | (show AL _ _ _ _ _ _ _ _; first | refine al_s Y Y Y ?_ | (refine Au ?_; first | show AW _ _ _ _ _ _ | show ∃ x', _ < _ ∧ _)) | (show AW _ _ (.seq _ _) _ _ _; refine Ai ?_; intro Q1) | (show AW _ _ (.region _ _ false) _ _ _; refine Af ?_; intro O1) | (show AW _ _ (.cond _ _ _) _ _ _; first | refine As Y ?_ | refine Av Y ?_) | (show AW _ _ (.skip) _ _ _; refine Aq ?_; first | show AW _ _ _ _ _ _ | show ∃ x', _ < _ ∧ _) | (show AW _ _ (.goto _) _ _ _; refine Bs ?_; try dsimp only [Am, Aa, Ao, Ad]) | (show AW _ _ (.ret) _ _ _; refine Ar ?_; try dsimp only [Am, Aa, Ao, Ad])
    | (show DL _ _ _ _ _ _ _; refine dl_d Y Y (fun K kt kf => Ak hG Y Y Y Y Y kt kf) (fun h => ?_) (fun h => ?_))
    | (show DL _ _ _ _ _ _ _; refine dl_s Y Y Y ?_) | (show DL _ _ _ _ _ _ _; refine Bj ?_; first | show AW _ _ _ _ _ _ | show ∃ x', _ < _ ∧ _) | (show AW _ _ (.region _ _ true) _ _ _; refine A1 mix (by kernel_rfl) ?_; intro O1) | fail)
              exact ⟨rfl, ⟨x :: a1, b1, [y], i', by simpa [kOr] using hp, by simp only [List.length_cons, List.length_append, List.length_nil] at *; omega⟩, by simp only [List.length_cons]; omega, .consW rfl (.eq (by simp [cT])) (.consW rfl (.eq (by simp [cT])) (.cons rfl (.consW rfl (.eq rfl) (.nil _)))), .refl _⟩
            | cons z pre =>
              repeat' (first
    | ((first | (show AL _ _ _ _ _ _ _ _; refine Ah Y ?_) | (show DL _ _ _ _ _ _ _; refine' A9 Y Y (fun K kk => ?_) ?_; try (show Go.Ts.T; rotate_left))); (first
      | (show AOp _ _ ⟨_, .move _, _, _, _, _⟩ _ _ _; refine Ap hG Y Y ?_)
      | (show AOp _ _ ⟨_, .assign _, _, _, _, _⟩ _ _ _; refine A6 hG Y Y ?_)
      | (show AOp _ _ ⟨_, .call ⟨.builtin .len, _, _⟩, _, _, _, _⟩ _ _ _; first | refine Ay hG Y Y Y Y ?_ | refine Bb hG Y Y Y Y Y ?_)
      | (show AOp _ _ ⟨_, .binOp .add _ _ _ _, _, _, _, _⟩ _ _ _; first | refine Al hG Y Y Y Y Y (by omega) ?_)
      | (show AOp _ _ ⟨_, .binOp _ _ _ _ _, _, _, _, _⟩ _ _ _; first | refine Aw hG Y Y Y Y Y (by omega) ?_ | refine Ax hG Y Y Y Y Y (by omega) ?_ | ((fail_if_success have := kk); refine Ak hG Y Y Y Y Y (fun h => ?_) (fun h => ?_)))
      | (show AOp _ _ ⟨_, .load _ _, _, _, _, _⟩ _ _ _; first | refine A7 hG Y Y Y ?_ | refine r_ld 0 hG Y Y Y Y ?_)
      | (show AOp _ _ ⟨_, .indexAddr _ _ _, _, _, _, _⟩ _ _ _; first | refine r_idx0 hG Y Y Y Y Y Y Y ?_ | refine Az hG Y Y Y Y Y Y Y (by omega) ?_ | refine A0 hG Y Y Y Y Y Y Y (by omega) ?_ | refine Bd hG Y Y ?_)
      | (show AOp _ _ ⟨_, .slice _ _ _ _ _, _, _, _, _⟩ _ _ _; first | refine A8 hG Y Y Y Y Y Y Y (by omega) ?_ | refine Be hG Y Y Y Y Y Y Y (by omega) ?_ | refine r_sl hG Y Y ?_)
      | (show AOp _ _ ⟨_, .pick _ _ _, _, _, _, _⟩ _ _ _; refine Ba hG Y Y Y ?_)
      | (show AOp _ _ ⟨_, .buildSlice _ _ _, _, _, _, _⟩ _ _ _; first | refine r_mk (sz := 1) hG Y Y Y Y Y Y Y ?_)
      | (show AOp _ _ ⟨_, .call ⟨.builtin .append, _, _⟩, _, _, _, _⟩ _ _ _; fail)
      | (show AOp _ _ ⟨_, .call ⟨.value _, _, _⟩, _, _, _, _⟩ _ _ _; first | refine A5 Y Y Y Y Y (by first | (apply hk <;> (first | assumption | omega | exact Ab _ _ | exact Ae _ | exact Ac _ _ | exact Ag _ | rfl | (simp; omega))) | fail) ?_ | fail)
      | refine r_q hG Y Y Y ?_); try exact kk)
    | (show AL _ _ _ _ _ _ _ _; first | refine al_s Y Y Y ?_ | (refine Au ?_; first | show AW _ _ _ _ _ _ | show ∃ x', _ < _ ∧ _)) | (show AW _ _ (.seq _ _) _ _ _; refine Ai ?_; intro Q1) | (show AW _ _ (.region _ _ false) _ _ _; refine Af ?_; intro O1) | (show AW _ _ (.cond _ _ _) _ _ _; first | refine As Y ?_ | refine Av Y ?_) | (show AW _ _ (.skip) _ _ _; refine Aq ?_; first | show AW _ _ _ _ _ _ | show ∃ x', _ < _ ∧ _) | (show AW _ _ (.goto _) _ _ _; refine Bs ?_; try dsimp only [Am, Aa, Ao, Ad]) | (show AW _ _ (.ret) _ _ _; refine Ar ?_; try dsimp only [Am, Aa, Ao, Ad])
    | (show DL _ _ _ _ _ _ _; refine dl_d Y Y (fun K kt kf => Ak hG Y Y Y Y Y kt kf) (fun h => ?_) (fun h => ?_))
    | (show DL _ _ _ _ _ _ _; refine dl_s Y Y Y ?_) | (show DL _ _ _ _ _ _ _; refine Bj ?_; first | show AW _ _ _ _ _ _ | show ∃ x', _ < _ ∧ _) | (show AW _ _ (.region _ _ true) _ _ _; refine A1 mix (by kernel_rfl) ?_; intro O1) | fail)
              refine Ah rfl (aop_appL (n := 0) (objs := fun _ => none) hG rfl rfl rfl rfl rfl ⟨_, rfl⟩ rfl rfl ?_ rfl (fun i o h => by cases h) rfl rfl ?_ ?_ rfl (fun i' hi' => ?_))
              · simp [rowT_length]
              · intro q hq; simp [flat, hT_cells] at hq; subst hq; rfl
              · simp only [List.length_cons, List.length_nil] at *; omega
              repeat' (first
    | ((first | (show AL _ _ _ _ _ _ _ _; refine Ah Y ?_) | (show DL _ _ _ _ _ _ _; refine' A9 Y Y (fun K kk => ?_) ?_; try (show Go.Ts.T; rotate_left))); (first
      | (show AOp _ _ ⟨_, .move _, _, _, _, _⟩ _ _ _; refine Ap hG Y Y ?_)
      | (show AOp _ _ ⟨_, .assign _, _, _, _, _⟩ _ _ _; refine A6 hG Y Y ?_)
      | (show AOp _ _ ⟨_, .call ⟨.builtin .len, _, _⟩, _, _, _, _⟩ _ _ _; first | refine Ay hG Y Y Y Y ?_ | refine Bb hG Y Y Y Y Y ?_)
      | (show AOp _ _ ⟨_, .binOp .add _ _ _ _, _, _, _, _⟩ _ _ _; first | refine Al hG Y Y Y Y Y (by omega) ?_)
      | (show AOp _ _ ⟨_, .binOp _ _ _ _ _, _, _, _, _⟩ _ _ _; first | refine Aw hG Y Y Y Y Y (by omega) ?_ | refine Ax hG Y Y Y Y Y (by omega) ?_ | ((fail_if_success have := kk); refine Ak hG Y Y Y Y Y (fun h => ?_) (fun h => ?_)))
      | (show AOp _ _ ⟨_, .load _ _, _, _, _, _⟩ _ _ _; first | refine A7 hG Y Y Y ?_ | refine r_ld 0 hG Y Y Y Y ?_)
      | (show AOp _ _ ⟨_, .indexAddr _ _ _, _, _, _, _⟩ _ _ _; first | refine r_idx0 hG Y Y Y Y Y Y Y ?_ | refine Az hG Y Y Y Y Y Y Y (by omega) ?_ | refine A0 hG Y Y Y Y Y Y Y (by omega) ?_ | refine Bd hG Y Y ?_)
      | (show AOp _ _ ⟨_, .slice _ _ _ _ _, _, _, _, _⟩ _ _ _; first | refine A8 hG Y Y Y Y Y Y Y (by omega) ?_ | refine Be hG Y Y Y Y Y Y Y (by omega) ?_ | refine r_sl hG Y Y ?_)
      | (show AOp _ _ ⟨_, .pick _ _ _, _, _, _, _⟩ _ _ _; refine Ba hG Y Y Y ?_)
      | (show AOp _ _ ⟨_, .buildSlice _ _ _, _, _, _, _⟩ _ _ _; first | refine r_mk (sz := 1) hG Y Y Y Y Y Y Y ?_)
      | (show AOp _ _ ⟨_, .call ⟨.builtin .append, _, _⟩, _, _, _, _⟩ _ _ _; first | refine Bg (sz := 1) (xs := []) hG Y Y Y Y Y Y Y ⟨_, Y⟩ Y Y Y Y Y Y Y (by first | omega | (simp; omega)) (fun k => ?_) | refine Bi 0 hG Y Y Y Y Y Y Y ⟨_, Y⟩ Y Y Y Y Y (by first | omega | (simp only [List.length_append, List.length_cons, List.length_nil]; omega)) (fun k => ?_) | fail)
      | (show AOp _ _ ⟨_, .call ⟨.value _, _, _⟩, _, _, _, _⟩ _ _ _; first | refine A5 Y Y Y Y Y (by first | (apply hk <;> (first | assumption | omega | exact Ab _ _ | exact Ae _ | exact Ac _ _ | exact Ag _ | rfl | (simp; omega))) | fail) ?_ | fail)
      | refine r_q hG Y Y Y ?_); try exact kk)
    | (show AL _ _ _ _ _ _ _ _; first | refine al_s Y Y Y ?_ | (refine Au ?_; first | show AW _ _ _ _ _ _ | show ∃ x', _ < _ ∧ _)) | (show AW _ _ (.seq _ _) _ _ _; refine Ai ?_; intro Q1) | (show AW _ _ (.region _ _ false) _ _ _; refine Af ?_; intro O1) | (show AW _ _ (.cond _ _ _) _ _ _; first | refine As Y ?_ | refine Av Y ?_) | (show AW _ _ (.skip) _ _ _; refine Aq ?_; first | show AW _ _ _ _ _ _ | show ∃ x', _ < _ ∧ _) | (show AW _ _ (.goto _) _ _ _; refine Bs ?_; try dsimp only [Am, Aa, Ao, Ad]) | (show AW _ _ (.ret) _ _ _; refine Ar ?_; try dsimp only [Am, Aa, Ao, Ad])
    | (show DL _ _ _ _ _ _ _; refine dl_d Y Y (fun K kt kf => Ak hG Y Y Y Y Y kt kf) (fun h => ?_) (fun h => ?_))
    | (show DL _ _ _ _ _ _ _; refine dl_s Y Y Y ?_) | (show DL _ _ _ _ _ _ _; refine Bj ?_; first | show AW _ _ _ _ _ _ | show ∃ x', _ < _ ∧ _) | (show AW _ _ (.region _ _ true) _ _ _; refine A1 mix (by kernel_rfl) ?_; intro O1) | fail)
              exact ⟨rfl, ⟨x :: a1, b1, z :: pre ++ [y], i', by simpa [kOr] using hp, by simp only [List.length_cons, List.length_append, List.length_nil] at *; omega⟩, by simp only [List.length_cons]; omega, .consW rfl (.eq (by simp [cT])) (.consW rfl (.eq (by simp [cT])) (.cons rfl (.consW rfl (.eq (by simp [mlE])) (.nil _)))), by
                show Go.Ts.GStep ⟨[(i', .cells ((rowT hT (z :: pre).toArray).drop 0 ++ flat [hT y]))], [], off, none⟩ _
                rw [row_snoc]; exact .refl _⟩
          · rw [if_neg h2] at hp
            rw [← hT_lt] at h2
            cases pre with
            | nil =>
              repeat' (first
    | ((first | (show AL _ _ _ _ _ _ _ _; refine Ah Y ?_) | (show DL _ _ _ _ _ _ _; refine' A9 Y Y (fun K kk => ?_) ?_; try (show Go.Ts.T; rotate_left))); (first
      | (show AOp _ _ ⟨_, .move _, _, _, _, _⟩ _ _ _; refine Ap hG Y Y ?_)
      | (show AOp _ _ ⟨_, .assign _, _, _, _, _⟩ _ _ _; refine A6 hG Y Y ?_)
      | (show AOp _ _ ⟨_, .call ⟨.builtin .len, _, _⟩, _, _, _, _⟩ _ _ _; first | refine Ay hG Y Y Y Y ?_ | refine Bb hG Y Y Y Y Y ?_)
      | (show AOp _ _ ⟨_, .binOp .add _ _ _ _, _, _, _, _⟩ _ _ _; first | refine Al hG Y Y Y Y Y (by omega) ?_)
      | (show AOp _ _ ⟨_, .binOp _ _ _ _ _, _, _, _, _⟩ _ _ _; first | refine Aw hG Y Y Y Y Y (by omega) ?_ | refine Ax hG Y Y Y Y Y (by omega) ?_ | ((fail_if_success have := kk); refine Ak hG Y Y Y Y Y (fun h => ?_) (fun h => ?_)))
      | (show AOp _ _ ⟨_, .load _ _, _, _, _, _⟩ _ _ _; first | refine A7 hG Y Y Y ?_ | refine r_ld 0 hG Y Y Y Y ?_)
      | (show AOp _ _ ⟨_, .indexAddr _ _ _, _, _, _, _⟩ _ _ _; first | refine r_idx0 hG Y Y Y Y Y Y Y ?_ | refine Az hG Y Y Y Y Y Y Y (by omega) ?_ | refine A0 hG Y Y Y Y Y Y Y (by omega) ?_ | refine Bd hG Y Y ?_)
      | (show AOp _ _ ⟨_, .slice _ _ _ _ _, _, _, _, _⟩ _ _ _; first | refine A8 hG Y Y Y Y Y Y Y (by omega) ?_ | refine Be hG Y Y Y Y Y Y Y (by omega) ?_ | refine r_sl hG Y Y ?_)
      | (show AOp _ _ ⟨_, .pick _ _ _, _, _, _, _⟩ _ _ _; refine Ba hG Y Y Y ?_)
      | (show AOp _ _ ⟨_, .buildSlice _ _ _, _, _, _, _⟩ _ _ _; first | refine r_mk (sz := 1) hG Y Y Y Y Y Y Y ?_)
      | (show AOp _ _ ⟨_, .call ⟨.builtin .append, _, _⟩, _, _, _, _⟩ _ _ _; fail)
      | (show AOp _ _ ⟨_, .call ⟨.value _, _, _⟩, _, _, _, _⟩ _ _ _; first | refine A5 Y Y Y Y Y (by first | (apply hk <;> (first | assumption | omega | exact Ab _ _ | exact Ae _ | exact Ac _ _ | exact Ag _ | rfl | (simp; omega))) | fail) ?_ | fail)
      | refine r_q hG Y Y Y ?_); try exact kk)
    | (show AL _ _ _ _ _ _ _ _; first | refine al_s Y Y Y ?_ | (refine Au ?_; first | show AW _ _ _ _ _ _ | show ∃ x', _ < _ ∧ _)) | (show AW _ _ (.seq _ _) _ _ _; refine Ai ?_; intro Q1) | (show AW _ _ (.region _ _ false) _ _ _; refine Af ?_; intro O1) | (show AW _ _ (.cond _ _ _) _ _ _; first | refine As Y ?_ | refine Av Y ?_) | (show AW _ _ (.skip) _ _ _; refine Aq ?_; first | show AW _ _ _ _ _ _ | show ∃ x', _ < _ ∧ _) | (show AW _ _ (.goto _) _ _ _; refine Bs ?_; try dsimp only [Am, Aa, Ao, Ad]) | (show AW _ _ (.ret) _ _ _; refine Ar ?_; try dsimp only [Am, Aa, Ao, Ad])
    | (show DL _ _ _ _ _ _ _; refine dl_d Y Y (fun K kt kf => Ak hG Y Y Y Y Y kt kf) (fun h => ?_) (fun h => ?_))
    | (show DL _ _ _ _ _ _ _; refine dl_s Y Y Y ?_) | (show DL _ _ _ _ _ _ _; refine Bj ?_; first | show AW _ _ _ _ _ _ | show ∃ x', _ < _ ∧ _) | (show AW _ _ (.region _ _ true) _ _ _; refine A1 mix (by kernel_rfl) ?_; intro O1) | fail)
              refine Ah rfl (aop_app0L (objs := fun _ => none) hG rfl rfl rfl rfl rfl ⟨_, rfl⟩ rfl rfl (fun i o h => by cases h) rfl rfl (by simp) (by simp) rfl (fun i' hi' => ?_))
              repeat' (first
    | ((first | (show AL _ _ _ _ _ _ _ _; refine Ah Y ?_) | (show DL _ _ _ _ _ _ _; refine' A9 Y Y (fun K kk => ?_) ?_; try (show Go.Ts.T; rotate_left))); (first
      | (show AOp _ _ ⟨_, .move _, _, _, _, _⟩ _ _ _; refine Ap hG Y Y ?_)
      | (show AOp _ _ ⟨_, .assign _, _, _, _, _⟩ _ _ _; refine A6 hG Y Y ?_)
      | (show AOp _ _ ⟨_, .call ⟨.builtin .len, _, _⟩, _, _, _, _⟩ _ _ _; first | refine Ay hG Y Y Y Y ?_ | refine Bb hG Y Y Y Y Y ?_)
      | (show AOp _ _ ⟨_, .binOp .add _ _ _ _, _, _, _, _⟩ _ _ _; first | refine Al hG Y Y Y Y Y (by omega) ?_)
      | (show AOp _ _ ⟨_, .binOp _ _ _ _ _, _, _, _, _⟩ _ _ _; first | refine Aw hG Y Y Y Y Y (by omega) ?_ | refine Ax hG Y Y Y Y Y (by omega) ?_ | ((fail_if_success have := kk); refine Ak hG Y Y Y Y Y (fun h => ?_) (fun h => ?_)))
      | (show AOp _ _ ⟨_, .load _ _, _, _, _, _⟩ _ _ _; first | refine A7 hG Y Y Y ?_ | refine r_ld 0 hG Y Y Y Y ?_)
      | (show AOp _ _ ⟨_, .indexAddr _ _ _, _, _, _, _⟩ _ _ _; first | refine r_idx0 hG Y Y Y Y Y Y Y ?_ | refine Az hG Y Y Y Y Y Y Y (by omega) ?_ | refine A0 hG Y Y Y Y Y Y Y (by omega) ?_ | refine Bd hG Y Y ?_)
      | (show AOp _ _ ⟨_, .slice _ _ _ _ _, _, _, _, _⟩ _ _ _; first | refine A8 hG Y Y Y Y Y Y Y (by omega) ?_ | refine Be hG Y Y Y Y Y Y Y (by omega) ?_ | refine r_sl hG Y Y ?_)
      | (show AOp _ _ ⟨_, .pick _ _ _, _, _, _, _⟩ _ _ _; refine Ba hG Y Y Y ?_)
      | (show AOp _ _ ⟨_, .buildSlice _ _ _, _, _, _, _⟩ _ _ _; first | refine r_mk (sz := 1) hG Y Y Y Y Y Y Y ?_)
      | (show AOp _ _ ⟨_, .call ⟨.builtin .append, _, _⟩, _, _, _, _⟩ _ _ _; first | refine Bg (sz := 1) (xs := []) hG Y Y Y Y Y Y Y ⟨_, Y⟩ Y Y Y Y Y Y Y (by first | omega | (simp; omega)) (fun k => ?_) | refine Bi 0 hG Y Y Y Y Y Y Y ⟨_, Y⟩ Y Y Y Y Y (by first | omega | (simp only [List.length_append, List.length_cons, List.length_nil]; omega)) (fun k => ?_) | fail)
      | (show AOp _ _ ⟨_, .call ⟨.value _, _, _⟩, _, _, _, _⟩ _ _ _; first | refine A5 Y Y Y Y Y (by first | (apply hk <;> (first | assumption | omega | exact Ab _ _ | exact Ae _ | exact Ac _ _ | exact Ag _ | rfl | (simp; omega))) | fail) ?_ | fail)
      | refine r_q hG Y Y Y ?_); try exact kk)
    | (show AL _ _ _ _ _ _ _ _; first | refine al_s Y Y Y ?_ | (refine Au ?_; first | show AW _ _ _ _ _ _ | show ∃ x', _ < _ ∧ _)) | (show AW _ _ (.seq _ _) _ _ _; refine Ai ?_; intro Q1) | (show AW _ _ (.region _ _ false) _ _ _; refine Af ?_; intro O1) | (show AW _ _ (.cond _ _ _) _ _ _; first | refine As Y ?_ | refine Av Y ?_) | (show AW _ _ (.skip) _ _ _; refine Aq ?_; first | show AW _ _ _ _ _ _ | show ∃ x', _ < _ ∧ _) | (show AW _ _ (.goto _) _ _ _; refine Bs ?_; try dsimp only [Am, Aa, Ao, Ad]) | (show AW _ _ (.ret) _ _ _; refine Ar ?_; try dsimp only [Am, Aa, Ao, Ad])
    | (show DL _ _ _ _ _ _ _; refine dl_d Y Y (fun K kt kf => Ak hG Y Y Y Y Y kt kf) (fun h => ?_) (fun h => ?_))
    | (show DL _ _ _ _ _ _ _; refine dl_s Y Y Y ?_) | (show DL _ _ _ _ _ _ _; refine Bj ?_; first | show AW _ _ _ _ _ _ | show ∃ x', _ < _ ∧ _) | (show AW _ _ (.region _ _ true) _ _ _; refine A1 mix (by kernel_rfl) ?_; intro O1) | fail)
              exact ⟨rfl, ⟨a1, b1, [x], i', by simpa [kOr] using hp, by simp only [List.length_cons, List.length_append, List.length_nil] at *; omega⟩, by simp only [List.length_cons]; omega, .consW rfl (.eq (by simp [cT])) (.consW rfl (.eq (by simp [cT])) (.cons rfl (.consW rfl (.eq rfl) (.nil _)))), .refl _⟩
            | cons z pre =>
              repeat' (first
    | ((first | (show AL _ _ _ _ _ _ _ _; refine Ah Y ?_) | (show DL _ _ _ _ _ _ _; refine' A9 Y Y (fun K kk => ?_) ?_; try (show Go.Ts.T; rotate_left))); (first
      | (show AOp _ _ ⟨_, .move _, _, _, _, _⟩ _ _ _; refine Ap hG Y Y ?_)
      | (show AOp _ _ ⟨_, .assign _, _, _, _, _⟩ _ _ _; refine A6 hG Y Y ?_)
      | (show AOp _ _ ⟨_, .call ⟨.builtin .len, _, _⟩, _, _, _, _⟩ _ _ _; first | refine Ay hG Y Y Y Y ?_ | refine Bb hG Y Y Y Y Y ?_)
      | (show AOp _ _ ⟨_, .binOp .add _ _ _ _, _, _, _, _⟩ _ _ _; first | refine Al hG Y Y Y Y Y (by omega) ?_)
      | (show AOp _ _ ⟨_, .binOp _ _ _ _ _, _, _, _, _⟩ _ _ _; first | refine Aw hG Y Y Y Y Y (by omega) ?_ | refine Ax hG Y Y Y Y Y (by omega) ?_ | ((fail_if_success have := kk); refine Ak hG Y Y Y Y Y (fun h => ?_) (fun h => ?_)))
      | (show AOp _ _ ⟨_, .load _ _, _, _, _, _⟩ _ _ _; first | refine A7 hG Y Y Y ?_ | refine r_ld 0 hG Y Y Y Y ?_)
      | (show AOp _ _ ⟨_, .indexAddr _ _ _, _, _, _, _⟩ _ _ _; first | refine r_idx0 hG Y Y Y Y Y Y Y ?_ | refine Az hG Y Y Y Y Y Y Y (by omega) ?_ | refine A0 hG Y Y Y Y Y Y Y (by omega) ?_ | refine Bd hG Y Y ?_)
      | (show AOp _ _ ⟨_, .slice _ _ _ _ _, _, _, _, _⟩ _ _ _; first | refine A8 hG Y Y Y Y Y Y Y (by omega) ?_ | refine Be hG Y Y Y Y Y Y Y (by omega) ?_ | refine r_sl hG Y Y ?_)
      | (show AOp _ _ ⟨_, .pick _ _ _, _, _, _, _⟩ _ _ _; refine Ba hG Y Y Y ?_)
      | (show AOp _ _ ⟨_, .buildSlice _ _ _, _, _, _, _⟩ _ _ _; first | refine r_mk (sz := 1) hG Y Y Y Y Y Y Y ?_)
      | (show AOp _ _ ⟨_, .call ⟨.builtin .append, _, _⟩, _, _, _, _⟩ _ _ _; fail)
      | (show AOp _ _ ⟨_, .call ⟨.value _, _, _⟩, _, _, _, _⟩ _ _ _; first | refine A5 Y Y Y Y Y (by first | (apply hk <;> (first | assumption | omega | exact Ab _ _ | exact Ae _ | exact Ac _ _ | exact Ag _ | rfl | (simp; omega))) | fail) ?_ | fail)
      | refine r_q hG Y Y Y ?_); try exact kk)
    | (show AL _ _ _ _ _ _ _ _; first | refine al_s Y Y Y ?_ | (refine Au ?_; first | show AW _ _ _ _ _ _ | show ∃ x', _ < _ ∧ _)) | (show AW _ _ (.seq _ _) _ _ _; refine Ai ?_; intro Q1) | (show AW _ _ (.region _ _ false) _ _ _; refine Af ?_; intro O1) | (show AW _ _ (.cond _ _ _) _ _ _; first | refine As Y ?_ | refine Av Y ?_) | (show AW _ _ (.skip) _ _ _; refine Aq ?_; first | show AW _ _ _ _ _ _ | show ∃ x', _ < _ ∧ _) | (show AW _ _ (.goto _) _ _ _; refine Bs ?_; try dsimp only [Am, Aa, Ao, Ad]) | (show AW _ _ (.ret) _ _ _; refine Ar ?_; try dsimp only [Am, Aa, Ao, Ad])
    | (show DL _ _ _ _ _ _ _; refine dl_d Y Y (fun K kt kf => Ak hG Y Y Y Y Y kt kf) (fun h => ?_) (fun h => ?_))
    | (show DL _ _ _ _ _ _ _; refine dl_s Y Y Y ?_) | (show DL _ _ _ _ _ _ _; refine Bj ?_; first | show AW _ _ _ _ _ _ | show ∃ x', _ < _ ∧ _) | (show AW _ _ (.region _ _ true) _ _ _; refine A1 mix (by kernel_rfl) ?_; intro O1) | fail)
              refine Ah rfl (aop_appL (n := 0) (objs := fun _ => none) hG rfl rfl rfl rfl rfl ⟨_, rfl⟩ rfl rfl ?_ rfl (fun i o h => by cases h) rfl rfl ?_ ?_ rfl (fun i' hi' => ?_))
              · simp [rowT_length]
              · intro q hq; simp [flat, hT_cells] at hq; subst hq; rfl
              · simp only [List.length_cons, List.length_nil] at *; omega
              repeat' (first
    | ((first | (show AL _ _ _ _ _ _ _ _; refine Ah Y ?_) | (show DL _ _ _ _ _ _ _; refine' A9 Y Y (fun K kk => ?_) ?_; try (show Go.Ts.T; rotate_left))); (first
      | (show AOp _ _ ⟨_, .move _, _, _, _, _⟩ _ _ _; refine Ap hG Y Y ?_)
      | (show AOp _ _ ⟨_, .assign _, _, _, _, _⟩ _ _ _; refine A6 hG Y Y ?_)
      | (show AOp _ _ ⟨_, .call ⟨.builtin .len, _, _⟩, _, _, _, _⟩ _ _ _; first | refine Ay hG Y Y Y Y ?_ | refine Bb hG Y Y Y Y Y ?_)
      | (show AOp _ _ ⟨_, .binOp .add _ _ _ _, _, _, _, _⟩ _ _ _; first | refine Al hG Y Y Y Y Y (by omega) ?_)
      | (show AOp _ _ ⟨_, .binOp _ _ _ _ _, _, _, _, _⟩ _ _ _; first | refine Aw hG Y Y Y Y Y (by omega) ?_ | refine Ax hG Y Y Y Y Y (by omega) ?_ | ((fail_if_success have := kk); refine Ak hG Y Y Y Y Y (fun h => ?_) (fun h => ?_)))
      | (show AOp _ _ ⟨_, .load _ _, _, _, _, _⟩ _ _ _; first | refine A7 hG Y Y Y ?_ | refine r_ld 0 hG Y Y Y Y ?_)
      | (show AOp _ _ ⟨_, .indexAddr _ _ _, _, _, _, _⟩ _ _ _; first | refine r_idx0 hG Y Y Y Y Y Y Y ?_ | refine Az hG Y Y Y Y Y Y Y (by omega) ?_ | refine A0 hG Y Y Y Y Y Y Y (by omega) ?_ | refine Bd hG Y Y ?_)
      | (show AOp _ _ ⟨_, .slice _ _ _ _ _, _, _, _, _⟩ _ _ _; first | refine A8 hG Y Y Y Y Y Y Y (by omega) ?_ | refine Be hG Y Y Y Y Y Y Y (by omega) ?_ | refine r_sl hG Y Y ?_)
      | (show AOp _ _ ⟨_, .pick _ _ _, _, _, _, _⟩ _ _ _; refine Ba hG Y Y Y ?_)
      | (show AOp _ _ ⟨_, .buildSlice _ _ _, _, _, _, _⟩ _ _ _; first | refine r_mk (sz := 1) hG Y Y Y Y Y Y Y ?_)
      | (show AOp _ _ ⟨_, .call ⟨.builtin .append, _, _⟩, _, _, _, _⟩ _ _ _; first | refine Bg (sz := 1) (xs := []) hG Y Y Y Y Y Y Y ⟨_, Y⟩ Y Y Y Y Y Y Y (by first | omega | (simp; omega)) (fun k => ?_) | refine Bi 0 hG Y Y Y Y Y Y Y ⟨_, Y⟩ Y Y Y Y Y (by first | omega | (simp only [List.length_append, List.length_cons, List.length_nil]; omega)) (fun k => ?_) | fail)
      | (show AOp _ _ ⟨_, .call ⟨.value _, _, _⟩, _, _, _, _⟩ _ _ _; first | refine A5 Y Y Y Y Y (by first | (apply hk <;> (first | assumption | omega | exact Ab _ _ | exact Ae _ | exact Ac _ _ | exact Ag _ | rfl | (simp; omega))) | fail) ?_ | fail)
      | refine r_q hG Y Y Y ?_); try exact kk)
    | (show AL _ _ _ _ _ _ _ _; first | refine al_s Y Y Y ?_ | (refine Au ?_; first | show AW _ _ _ _ _ _ | show ∃ x', _ < _ ∧ _)) | (show AW _ _ (.seq _ _) _ _ _; refine Ai ?_; intro Q1) | (show AW _ _ (.region _ _ false) _ _ _; refine Af ?_; intro O1) | (show AW _ _ (.cond _ _ _) _ _ _; first | refine As Y ?_ | refine Av Y ?_) | (show AW _ _ (.skip) _ _ _; refine Aq ?_; first | show AW _ _ _ _ _ _ | show ∃ x', _ < _ ∧ _) | (show AW _ _ (.goto _) _ _ _; refine Bs ?_; try dsimp only [Am, Aa, Ao, Ad]) | (show AW _ _ (.ret) _ _ _; refine Ar ?_; try dsimp only [Am, Aa, Ao, Ad])
    | (show DL _ _ _ _ _ _ _; refine dl_d Y Y (fun K kt kf => Ak hG Y Y Y Y Y kt kf) (fun h => ?_) (fun h => ?_))
    | (show DL _ _ _ _ _ _ _; refine dl_s Y Y Y ?_) | (show DL _ _ _ _ _ _ _; refine Bj ?_; first | show AW _ _ _ _ _ _ | show ∃ x', _ < _ ∧ _) | (show AW _ _ (.region _ _ true) _ _ _; refine A1 mix (by kernel_rfl) ?_; intro O1) | fail)
              exact ⟨rfl, ⟨a1, b1, z :: pre ++ [x], i', by simpa [kOr] using hp, by simp only [List.length_cons, List.length_append, List.length_nil] at *; omega⟩, by simp only [List.length_cons]; omega, .consW rfl (.eq (by simp [cT])) (.consW rfl (.eq (by simp [cT])) (.cons rfl (.consW rfl (.eq (by simp [mlE])) (.nil _)))), by
                show Go.Ts.GStep ⟨[(i', .cells ((rowT hT (z :: pre).toArray).drop 0 ++ flat [hT x]))], [], off, none⟩ _
                rw [row_snoc]; exact .refl _⟩
  · intro key
    repeat' (first
    | ((first | (show AL _ _ _ _ _ _ _ _; refine Ah Y ?_) | (show DL _ _ _ _ _ _ _; refine' A9 Y Y (fun K kk => ?_) ?_; try (show Go.Ts.T; rotate_left))); (first
      | (show AOp _ _ ⟨_, .move _, _, _, _, _⟩ _ _ _; refine Ap hG Y Y ?_)
      | (show AOp _ _ ⟨_, .assign _, _, _, _, _⟩ _ _ _; refine A6 hG Y Y ?_)
      | (show AOp _ _ ⟨_, .call ⟨.builtin .len, _, _⟩, _, _, _, _⟩ _ _ _; first | refine Ay hG Y Y Y Y ?_ | refine Bb hG Y Y Y Y Y ?_)
      | (show AOp _ _ ⟨_, .binOp .add _ _ _ _, _, _, _, _⟩ _ _ _; first | refine Al hG Y Y Y Y Y (by omega) ?_)
      | (show AOp _ _ ⟨_, .binOp _ _ _ _ _, _, _, _, _⟩ _ _ _; first | refine Aw hG Y Y Y Y Y (by omega) ?_ | refine Ax hG Y Y Y Y Y (by omega) ?_ | ((fail_if_success have := kk); refine Ak hG Y Y Y Y Y (fun h => ?_) (fun h => ?_)))
      | (show AOp _ _ ⟨_, .load _ _, _, _, _, _⟩ _ _ _; first | refine A7 hG Y Y Y ?_ | refine r_ld 0 hG Y Y Y Y ?_)
      | (show AOp _ _ ⟨_, .indexAddr _ _ _, _, _, _, _⟩ _ _ _; first | refine r_idx0 hG Y Y Y Y Y Y Y ?_ | refine Az hG Y Y Y Y Y Y Y (by omega) ?_ | refine A0 hG Y Y Y Y Y Y Y (by omega) ?_ | refine Bd hG Y Y ?_)
      | (show AOp _ _ ⟨_, .slice _ _ _ _ _, _, _, _, _⟩ _ _ _; first | refine A8 hG Y Y Y Y Y Y Y (by omega) ?_ | refine Be hG Y Y Y Y Y Y Y (by omega) ?_ | refine r_sl hG Y Y ?_)
      | (show AOp _ _ ⟨_, .pick _ _ _, _, _, _, _⟩ _ _ _; refine Ba hG Y Y Y ?_)
      | (show AOp _ _ ⟨_, .buildSlice _ _ _, _, _, _, _⟩ _ _ _; first | refine r_mk (sz := 1) hG Y Y Y Y Y Y Y ?_)
      | (show AOp _ _ ⟨_, .call ⟨.builtin .append, _, _⟩, _, _, _, _⟩ _ _ _; first | refine Bg (sz := 1) (xs := []) hG Y Y Y Y Y Y Y ⟨_, Y⟩ Y Y Y Y Y Y Y (by first | omega | (simp; omega)) (fun k => ?_) | refine Bi 0 hG Y Y Y Y Y Y Y ⟨_, Y⟩ Y Y Y Y Y (by first | omega | (simp only [List.length_append, List.length_cons, List.length_nil]; omega)) (fun k => ?_) | fail)
      | refine r_q hG Y Y Y ?_); try exact kk)
    | (show AL _ _ _ _ _ _ _ _; first | refine al_s Y Y Y ?_ | (refine Au ?_; first | show AW _ _ _ _ _ _ | show ∃ x', _ < _ ∧ _)) | (show AW _ _ (.seq _ _) _ _ _; refine Ai ?_; intro Q1) | (show AW _ _ (.region _ _ false) _ _ _; refine Af ?_; intro O1) | (show AW _ _ (.cond _ _ _) _ _ _; first | refine As Y ?_ | refine Av Y ?_) | (show AW _ _ (.skip) _ _ _; refine Aq ?_; first | show AW _ _ _ _ _ _ | show ∃ x', _ < _ ∧ _) | (show AW _ _ (.goto _) _ _ _; refine Bs ?_; try dsimp only [Am, Aa, Ao, Ad]) | (show AW _ _ (.ret) _ _ _; refine Ar ?_; try dsimp only [Am, Aa, Ao, Ad])
    | (show DL _ _ _ _ _ _ _; refine dl_d Y Y (fun K kt kf => Ak hG Y Y Y Y Y kt kf) (fun h => ?_) (fun h => ?_))
    | (show DL _ _ _ _ _ _ _; refine dl_s Y Y Y ?_) | (show DL _ _ _ _ _ _ _; refine Bj ?_; first | show AW _ _ _ _ _ _ | show ∃ x', _ < _ ∧ _) | (show AW _ _ (.region _ _ true) _ _ _; refine A1 mix (by kernel_rfl) ?_; intro O1) | fail)
    refine aw_label ?_
    show AW _ _ _ _ _ _
    refine aw_forget ?_ (key ⟨a, b, [], 0, rfl, by simp⟩)
    exact .cons rfl (.cons rfl (.cons rfl (.cons rfl (.nil _))))
theorem or_live {x y : T} {a b : List UInt16} (hx : catsT x = some a) (hy : catsT y = some b) (hl : a.length + b.length ≤ 4294967000) (off : Nat → Nat → Prop) :
    ACalls Try.prog 17 [x, y] ⟨[], [], off, none⟩ (LiveL (Bk kOr a b) off) := by
  refine ACalls.weakL (us := [cT a, cT b]) ?_ (wk2 (Bw hx) (Bw hy))
  refine Bn (N := 8) (rs := [.tmp 4]) hG Try.func17 rfl rfl rfl rfl rfl ?_
  repeat' (first
    | ((show AL _ _ _ _ _ _ _ _; refine Ah Y ?_); (first
      | (show AOp _ _ ⟨_, .move _, _, _, _, _⟩ _ _ _; refine Ap hG Y Y ?_)
      | (show AOp _ _ ⟨_, .assign _, _, _, _, _⟩ _ _ _; refine A6 hG Y Y ?_)
      | refine r_q hG Y Y Y ?_))
    | (show AL _ _ _ _ _ _ _ _; first | refine al_s Y Y Y ?_ | (refine Au ?_; first | show AW _ _ _ _ _ _ | show ∃ x', _ < _ ∧ _)) | (show AW _ _ (.seq _ _) _ _ _; refine Ai ?_; intro Q1) | (show AW _ _ (.region _ _ false) _ _ _; refine Af ?_; intro O1) | (show AW _ _ (.ret) _ _ _; refine Ar ?_; try dsimp only [Am, Aa, Ao, Ad]) | fail)
  refine Ah rfl (op_call rfl rfl rfl rfl rfl ?_)
  rw [List.append_nil]
  refine (merge_live hl off).mono ?_
  rintro u σ' (⟨h1, rfl, rfl⟩ | ⟨h1, i, rfl, rfl⟩)
  · repeat' (first
    | ((show AL _ _ _ _ _ _ _ _; refine Ah Y ?_); (first
      | (show AOp _ _ ⟨_, .move _, _, _, _, _⟩ _ _ _; refine Ap hG Y Y ?_)
      | (show AOp _ _ ⟨_, .assign _, _, _, _, _⟩ _ _ _; refine A6 hG Y Y ?_)
      | refine r_q hG Y Y Y ?_))
    | (show AL _ _ _ _ _ _ _ _; first | refine al_s Y Y Y ?_ | (refine Au ?_; first | show AW _ _ _ _ _ _ | show ∃ x', _ < _ ∧ _)) | (show AW _ _ (.seq _ _) _ _ _; refine Ai ?_; intro Q1) | (show AW _ _ (.region _ _ false) _ _ _; refine Af ?_; intro O1) | (show AW _ _ (.ret) _ _ _; refine Ar ?_; try dsimp only [Am, Aa, Ao, Ad]) | fail)
    exact ret_live (Bm rfl Bp) (.refl _) (.inl ⟨h1, rfl, rfl⟩)
  · repeat' (first
    | ((show AL _ _ _ _ _ _ _ _; refine Ah Y ?_); (first
      | (show AOp _ _ ⟨_, .move _, _, _, _, _⟩ _ _ _; refine Ap hG Y Y ?_)
      | (show AOp _ _ ⟨_, .assign _, _, _, _, _⟩ _ _ _; refine A6 hG Y Y ?_)
      | refine r_q hG Y Y Y ?_))
    | (show AL _ _ _ _ _ _ _ _; first | refine al_s Y Y Y ?_ | (refine Au ?_; first | show AW _ _ _ _ _ _ | show ∃ x', _ < _ ∧ _)) | (show AW _ _ (.seq _ _) _ _ _; refine Ai ?_; intro Q1) | (show AW _ _ (.region _ _ false) _ _ _; refine Af ?_; intro O1) | (show AW _ _ (.ret) _ _ _; refine Ar ?_; try dsimp only [Am, Aa, Ao, Ad]) | fail)
    exact ret_live (Bm rfl Bp) (.refl _) (.inr ⟨h1, i, rfl, rfl⟩)
end Go.Proofs.Ytnmpgipfbbilbaa
namespace Go.Proofs.Ytnmpgipfbbilbaa
open Go.Ts Go.Sets
set_option linter.unusedSimpArgs false
set_option linter.unusedVariables false
attribute [local irreducible] Go.Ts.AW Go.Ts.AOps Go.Ts.AL Go.Ts.AOp Go.Ts.ACalls Go.Ts.DL Go.Ts.DQ Go.Ts.EL
structure SLX (c : Array UInt16) (b : List UInt16) where
  i : Nat
  hi : i ≤ c.size
  hp : ∀ k, k < i → c[k]! = b.getD k default
theorem sameL {own : Own} {c : Array UInt16} {b : List UInt16} (hl : c.size ≤ 4294967296) (hm : b.length ≤ 4294967296) : OnRow Try.prog 11 hT [.sl 1 own (b.map hT)] c (.bool (decide (c.toList = b))) c := by
  obtain ⟨D, hD⟩ : ∃ D, decide (c.toList = b) = D := ⟨_, rfl⟩
  rw [hD]
  intro off i n cap hn
  refine Bn (N := 26) (rs := [.tmp 4]) hG Try.func11 rfl rfl rfl rfl rfl ?_
  by_cases hlen : n = b.length
  · repeat' (first
    | ((first | (show AL _ _ _ _ _ _ _ _; refine Ah Y ?_) | (show DL _ _ _ _ _ _ _; refine' A9 Y Y (fun K kk => ?_) ?_; try (show Go.Ts.T; rotate_left))); (first
      | (show AOp _ _ ⟨_, .move _, _, _, _, _⟩ _ _ _; refine Ap hG Y Y ?_)
      | (show AOp _ _ ⟨_, .assign _, _, _, _, _⟩ _ _ _; refine A6 hG Y Y ?_)
      | (show AOp _ _ ⟨_, .call ⟨.builtin .len, _, _⟩, _, _, _, _⟩ _ _ _; first | refine Ay hG Y Y Y Y ?_ | refine Bb hG Y Y Y Y Y ?_)
      | (show AOp _ _ ⟨_, .binOp .add _ _ _ _, _, _, _, _⟩ _ _ _; first | refine r_arN hG Y Y Y Y Y (by omega) ?_ | refine r_arN (m := 1) hG Y Y Y Y Y (by omega) ?_ | refine Al hG Y Y Y Y Y (by omega) ?_)
      | (show AOp _ _ ⟨_, .binOp _ _ _ _ _, _, _, _, _⟩ _ _ _; first | refine Aw hG Y Y Y Y Y (by omega) ?_ | refine Ax hG Y Y Y Y Y (by omega) ?_ | ((fail_if_success have := kk); refine Ak hG Y Y Y Y Y (fun h => ?_) (fun h => ?_)))
      | (show AOp _ _ ⟨_, .load _ _, _, _, _, _⟩ _ _ _; first | refine r_ldL (α := UInt16) 0 hG Y Y Y Y (by omega) Y ?_ | refine A7 hG Y Y Y ?_ | refine r_ld 0 hG Y Y Y Y ?_)
      | (show AOp _ _ ⟨_, .indexAddr _ _ _, _, _, _, _⟩ _ _ _; first | refine r_idxL hG Y Y Y Y Y Y Y (by omega) ?_ | refine Az hG Y Y Y Y Y Y Y (by omega) ?_ | refine A0 hG Y Y Y Y Y Y Y (by omega) ?_ | refine Bd hG Y Y ?_)
      | refine r_q hG Y Y Y ?_); try exact kk)
    | (show AL _ _ _ _ _ _ _ _; first | refine al_s Y Y Y ?_ | (refine Au ?_; first | show AW _ _ _ _ _ _ | show ∃ x', _ < _ ∧ _)) | (show AW _ _ (.seq _ _) _ _ _; refine Ai ?_; intro Q1) | (show AW _ _ (.region _ _ false) _ _ _; refine Af ?_; intro O1) | (show AW _ _ (.cond _ _ _) _ _ _; first | refine As Y ?_ | refine Av Y ?_ | refine aw_if Y (fun h => ?_) (fun h => ?_)) | (show AW _ _ (.skip) _ _ _; refine Aq ?_; first | show AW _ _ _ _ _ _ | show ∃ x', _ < _ ∧ _) | (show AW _ _ (.block _ _) _ _ _; refine A4 ?_; intro Q1) | (show AW _ _ (.exit _) _ _ _; refine Bh ?_; first | show AW _ _ _ _ _ _ | show ∃ x', _ < _ ∧ _) | (show AW _ _ (.ret) _ _ _; refine Ar ?_; try dsimp only [Am, Aa, Ao, Ad])
    | (show DL _ _ _ _ _ _ _; refine dl_d Y Y (fun K kt kf => Ak hG Y Y Y Y Y kt kf) (fun h => ?_) (fun h => ?_))
    | (show DL _ _ _ _ _ _ _; refine dl_s Y Y Y ?_) | (show DL _ _ _ _ _ _ _; refine Bj ?_; first | show AW _ _ _ _ _ _ | show ∃ x', _ < _ ∧ _) | (show AW _ _ (.region _ _ true) _ _ _; refine A1 mix (by kernel_rfl) ?_; intro O1) | fail)
    refine aw_loop (X := SLX c b) (fun x => [(0, .aref 1 i 0 n cap), (1, .sl 1 own (b.map hT)), (5, .int .i64 (x.i : Int))]) (fun x => ⟨[(i, .cells (rowT hT c))], [], off, none⟩) (fun x => c.size - x.i) ⟨0, Nat.zero_le _, fun j hj => by omega⟩ (by repeat (first | exact .nil _ | refine .cons rfl ?_)) (.refl _) ?_
    rintro ⟨q, hi, hp⟩
    dsimp only
    by_cases hib : q < n
    · by_cases heq : ((c[q]!.toNat : Int) = ((b.getD q default).toNat : Int))
      · repeat' (first
    | ((first | (show AL _ _ _ _ _ _ _ _; refine Ah Y ?_) | (show DL _ _ _ _ _ _ _; refine' A9 Y Y (fun K kk => ?_) ?_; try (show Go.Ts.T; rotate_left))); (first
      | (show AOp _ _ ⟨_, .move _, _, _, _, _⟩ _ _ _; refine Ap hG Y Y ?_)
      | (show AOp _ _ ⟨_, .assign _, _, _, _, _⟩ _ _ _; refine A6 hG Y Y ?_)
      | (show AOp _ _ ⟨_, .call ⟨.builtin .len, _, _⟩, _, _, _, _⟩ _ _ _; first | refine Ay hG Y Y Y Y ?_ | refine Bb hG Y Y Y Y Y ?_)
      | (show AOp _ _ ⟨_, .binOp .add _ _ _ _, _, _, _, _⟩ _ _ _; first | refine r_arN hG Y Y Y Y Y (by omega) ?_ | refine r_arN (m := 1) hG Y Y Y Y Y (by omega) ?_ | refine Al hG Y Y Y Y Y (by omega) ?_)
      | (show AOp _ _ ⟨_, .binOp _ _ _ _ _, _, _, _, _⟩ _ _ _; first | refine Aw hG Y Y Y Y Y (by omega) ?_ | refine Ax hG Y Y Y Y Y (by omega) ?_ | ((fail_if_success have := kk); refine Ak hG Y Y Y Y Y (fun h => ?_) (fun h => ?_)))
      | (show AOp _ _ ⟨_, .load _ _, _, _, _, _⟩ _ _ _; first | refine r_ldL (α := UInt16) 0 hG Y Y Y Y (by omega) Y ?_ | refine A7 hG Y Y Y ?_ | refine r_ld 0 hG Y Y Y Y ?_)
      | (show AOp _ _ ⟨_, .indexAddr _ _ _, _, _, _, _⟩ _ _ _; first | refine r_idxL hG Y Y Y Y Y Y Y (by omega) ?_ | refine Az hG Y Y Y Y Y Y Y (by omega) ?_ | refine A0 hG Y Y Y Y Y Y Y (by omega) ?_ | refine Bd hG Y Y ?_)
      | refine r_q hG Y Y Y ?_); try exact kk)
    | (show AL _ _ _ _ _ _ _ _; first | refine al_s Y Y Y ?_ | (refine Au ?_; first | show AW _ _ _ _ _ _ | show ∃ x', _ < _ ∧ _)) | (show AW _ _ (.seq _ _) _ _ _; refine Ai ?_; intro Q1) | (show AW _ _ (.region _ _ false) _ _ _; refine Af ?_; intro O1) | (show AW _ _ (.cond _ _ _) _ _ _; first | refine As Y ?_ | refine Av Y ?_ | refine aw_if Y (fun h => ?_) (fun h => ?_)) | (show AW _ _ (.skip) _ _ _; refine Aq ?_; first | show AW _ _ _ _ _ _ | show ∃ x', _ < _ ∧ _) | (show AW _ _ (.block _ _) _ _ _; refine A4 ?_; intro Q1) | (show AW _ _ (.exit _) _ _ _; refine Bh ?_; first | show AW _ _ _ _ _ _ | show ∃ x', _ < _ ∧ _) | (show AW _ _ (.ret) _ _ _; refine Ar ?_; try dsimp only [Am, Aa, Ao, Ad])
    | (show DL _ _ _ _ _ _ _; refine dl_d Y Y (fun K kt kf => Ak hG Y Y Y Y Y kt kf) (fun h => ?_) (fun h => ?_))
    | (show DL _ _ _ _ _ _ _; refine dl_s Y Y Y ?_) | (show DL _ _ _ _ _ _ _; refine Bj ?_; first | show AW _ _ _ _ _ _ | show ∃ x', _ < _ ∧ _) | (show AW _ _ (.region _ _ true) _ _ _; refine A1 mix (by kernel_rfl) ?_; intro O1) | fail)
        refine ⟨⟨q + 1, by omega, fun j hj => ?_⟩, by dsimp only; omega, (by repeat (first | exact .nil _ | refine .cons rfl ?_)), .refl _⟩
        by_cases hj2 : j < q
        · exact hp j hj2
        · obtain rfl : j = q := by omega
          rw [← UInt16.toNat_inj]; omega
      · have hd : decide (c.toList = b) = false := decide_eq_false fun h => heq (by subst h; simp [List.getD, hn, hib, getElem!_pos c q (by omega)])
        rw [hd] at hD; subst hD
        repeat' (first
    | ((first | (show AL _ _ _ _ _ _ _ _; refine Ah Y ?_) | (show DL _ _ _ _ _ _ _; refine' A9 Y Y (fun K kk => ?_) ?_; try (show Go.Ts.T; rotate_left))); (first
      | (show AOp _ _ ⟨_, .move _, _, _, _, _⟩ _ _ _; refine Ap hG Y Y ?_)
      | (show AOp _ _ ⟨_, .assign _, _, _, _, _⟩ _ _ _; refine A6 hG Y Y ?_)
      | (show AOp _ _ ⟨_, .call ⟨.builtin .len, _, _⟩, _, _, _, _⟩ _ _ _; first | refine Ay hG Y Y Y Y ?_ | refine Bb hG Y Y Y Y Y ?_)
      | (show AOp _ _ ⟨_, .binOp .add _ _ _ _, _, _, _, _⟩ _ _ _; first | refine r_arN hG Y Y Y Y Y (by omega) ?_ | refine r_arN (m := 1) hG Y Y Y Y Y (by omega) ?_ | refine Al hG Y Y Y Y Y (by omega) ?_)
      | (show AOp _ _ ⟨_, .binOp _ _ _ _ _, _, _, _, _⟩ _ _ _; first | refine Aw hG Y Y Y Y Y (by omega) ?_ | refine Ax hG Y Y Y Y Y (by omega) ?_ | ((fail_if_success have := kk); refine Ak hG Y Y Y Y Y (fun h => ?_) (fun h => ?_)))
      | (show AOp _ _ ⟨_, .load _ _, _, _, _, _⟩ _ _ _; first | refine r_ldL (α := UInt16) 0 hG Y Y Y Y (by omega) Y ?_ | refine A7 hG Y Y Y ?_ | refine r_ld 0 hG Y Y Y Y ?_)
      | (show AOp _ _ ⟨_, .indexAddr _ _ _, _, _, _, _⟩ _ _ _; first | refine r_idxL hG Y Y Y Y Y Y Y (by omega) ?_ | refine Az hG Y Y Y Y Y Y Y (by omega) ?_ | refine A0 hG Y Y Y Y Y Y Y (by omega) ?_ | refine Bd hG Y Y ?_)
      | refine r_q hG Y Y Y ?_); try exact kk)
    | (show AL _ _ _ _ _ _ _ _; first | refine al_s Y Y Y ?_ | (refine Au ?_; first | show AW _ _ _ _ _ _ | show ∃ x', _ < _ ∧ _)) | (show AW _ _ (.seq _ _) _ _ _; refine Ai ?_; intro Q1) | (show AW _ _ (.region _ _ false) _ _ _; refine Af ?_; intro O1) | (show AW _ _ (.cond _ _ _) _ _ _; first | refine As Y ?_ | refine Av Y ?_ | refine aw_if Y (fun h => ?_) (fun h => ?_)) | (show AW _ _ (.skip) _ _ _; refine Aq ?_; first | show AW _ _ _ _ _ _ | show ∃ x', _ < _ ∧ _) | (show AW _ _ (.block _ _) _ _ _; refine A4 ?_; intro Q1) | (show AW _ _ (.exit _) _ _ _; refine Bh ?_; first | show AW _ _ _ _ _ _ | show ∃ x', _ < _ ∧ _) | (show AW _ _ (.ret) _ _ _; refine Ar ?_; try dsimp only [Am, Aa, Ao, Ad])
    | (show DL _ _ _ _ _ _ _; refine dl_d Y Y (fun K kt kf => Ak hG Y Y Y Y Y kt kf) (fun h => ?_) (fun h => ?_))
    | (show DL _ _ _ _ _ _ _; refine dl_s Y Y Y ?_) | (show DL _ _ _ _ _ _ _; refine Bj ?_; first | show AW _ _ _ _ _ _ | show ∃ x', _ < _ ∧ _) | (show AW _ _ (.region _ _ true) _ _ _; refine A1 mix (by kernel_rfl) ?_; intro O1) | fail)
        try dsimp (config := { zetaDelta := true }) only [Am, Aa]
        refine ret_row 0 (Bm rfl Bp) ?_ (.refl _) ?_ <;> rfl
    · have hd : decide (c.toList = b) = true := decide_eq_true (List.ext_getElem (by simp; omega) fun j h1 h2 => by
        have := hp j (by simp at h1; omega)
        simp at h1
        rw [getElem!_pos c j h1, getD_lt _ h2] at this
        simpa using this)
      rw [hd] at hD; subst hD
      repeat' (first
    | ((first | (show AL _ _ _ _ _ _ _ _; refine Ah Y ?_) | (show DL _ _ _ _ _ _ _; refine' A9 Y Y (fun K kk => ?_) ?_; try (show Go.Ts.T; rotate_left))); (first
      | (show AOp _ _ ⟨_, .move _, _, _, _, _⟩ _ _ _; refine Ap hG Y Y ?_)
      | (show AOp _ _ ⟨_, .assign _, _, _, _, _⟩ _ _ _; refine A6 hG Y Y ?_)
      | (show AOp _ _ ⟨_, .call ⟨.builtin .len, _, _⟩, _, _, _, _⟩ _ _ _; first | refine Ay hG Y Y Y Y ?_ | refine Bb hG Y Y Y Y Y ?_)
      | (show AOp _ _ ⟨_, .binOp .add _ _ _ _, _, _, _, _⟩ _ _ _; first | refine r_arN hG Y Y Y Y Y (by omega) ?_ | refine r_arN (m := 1) hG Y Y Y Y Y (by omega) ?_ | refine Al hG Y Y Y Y Y (by omega) ?_)
      | (show AOp _ _ ⟨_, .binOp _ _ _ _ _, _, _, _, _⟩ _ _ _; first | refine Aw hG Y Y Y Y Y (by omega) ?_ | refine Ax hG Y Y Y Y Y (by omega) ?_ | ((fail_if_success have := kk); refine Ak hG Y Y Y Y Y (fun h => ?_) (fun h => ?_)))
      | (show AOp _ _ ⟨_, .load _ _, _, _, _, _⟩ _ _ _; first | refine r_ldL (α := UInt16) 0 hG Y Y Y Y (by omega) Y ?_ | refine A7 hG Y Y Y ?_ | refine r_ld 0 hG Y Y Y Y ?_)
      | (show AOp _ _ ⟨_, .indexAddr _ _ _, _, _, _, _⟩ _ _ _; first | refine r_idxL hG Y Y Y Y Y Y Y (by omega) ?_ | refine Az hG Y Y Y Y Y Y Y (by omega) ?_ | refine A0 hG Y Y Y Y Y Y Y (by omega) ?_ | refine Bd hG Y Y ?_)
      | refine r_q hG Y Y Y ?_); try exact kk)
    | (show AL _ _ _ _ _ _ _ _; first | refine al_s Y Y Y ?_ | (refine Au ?_; first | show AW _ _ _ _ _ _ | show ∃ x', _ < _ ∧ _)) | (show AW _ _ (.seq _ _) _ _ _; refine Ai ?_; intro Q1) | (show AW _ _ (.region _ _ false) _ _ _; refine Af ?_; intro O1) | (show AW _ _ (.cond _ _ _) _ _ _; first | refine As Y ?_ | refine Av Y ?_ | refine aw_if Y (fun h => ?_) (fun h => ?_)) | (show AW _ _ (.skip) _ _ _; refine Aq ?_; first | show AW _ _ _ _ _ _ | show ∃ x', _ < _ ∧ _) | (show AW _ _ (.block _ _) _ _ _; refine A4 ?_; intro Q1) | (show AW _ _ (.exit _) _ _ _; refine Bh ?_; first | show AW _ _ _ _ _ _ | show ∃ x', _ < _ ∧ _) | (show AW _ _ (.ret) _ _ _; refine Ar ?_; try dsimp only [Am, Aa, Ao, Ad])
    | (show DL _ _ _ _ _ _ _; refine dl_d Y Y (fun K kt kf => Ak hG Y Y Y Y Y kt kf) (fun h => ?_) (fun h => ?_))
    | (show DL _ _ _ _ _ _ _; refine dl_s Y Y Y ?_) | (show DL _ _ _ _ _ _ _; refine Bj ?_; first | show AW _ _ _ _ _ _ | show ∃ x', _ < _ ∧ _) | (show AW _ _ (.region _ _ true) _ _ _; refine A1 mix (by kernel_rfl) ?_; intro O1) | fail)
      try dsimp (config := { zetaDelta := true }) only [Am, Aa]
      refine ret_row 0 (Bm rfl Bp) ?_ (.refl _) ?_ <;> rfl
  · have hd : decide (c.toList = b) = false := decide_eq_false fun h => hlen (by rw [← h]; simp [hn])
    rw [hd] at hD; subst hD
    repeat' (first
    | ((first | (show AL _ _ _ _ _ _ _ _; refine Ah Y ?_) | (show DL _ _ _ _ _ _ _; refine' A9 Y Y (fun K kk => ?_) ?_; try (show Go.Ts.T; rotate_left))); (first
      | (show AOp _ _ ⟨_, .move _, _, _, _, _⟩ _ _ _; refine Ap hG Y Y ?_)
      | (show AOp _ _ ⟨_, .assign _, _, _, _, _⟩ _ _ _; refine A6 hG Y Y ?_)
      | (show AOp _ _ ⟨_, .call ⟨.builtin .len, _, _⟩, _, _, _, _⟩ _ _ _; first | refine Ay hG Y Y Y Y ?_ | refine Bb hG Y Y Y Y Y ?_)
      | (show AOp _ _ ⟨_, .binOp .add _ _ _ _, _, _, _, _⟩ _ _ _; first | refine r_arN hG Y Y Y Y Y (by omega) ?_ | refine r_arN (m := 1) hG Y Y Y Y Y (by omega) ?_ | refine Al hG Y Y Y Y Y (by omega) ?_)
      | (show AOp _ _ ⟨_, .binOp _ _ _ _ _, _, _, _, _⟩ _ _ _; first | refine Aw hG Y Y Y Y Y (by omega) ?_ | refine Ax hG Y Y Y Y Y (by omega) ?_ | ((fail_if_success have := kk); refine Ak hG Y Y Y Y Y (fun h => ?_) (fun h => ?_)))
      | (show AOp _ _ ⟨_, .load _ _, _, _, _, _⟩ _ _ _; first | refine r_ldL (α := UInt16) 0 hG Y Y Y Y (by omega) Y ?_ | refine A7 hG Y Y Y ?_ | refine r_ld 0 hG Y Y Y Y ?_)
      | (show AOp _ _ ⟨_, .indexAddr _ _ _, _, _, _, _⟩ _ _ _; first | refine r_idxL hG Y Y Y Y Y Y Y (by omega) ?_ | refine Az hG Y Y Y Y Y Y Y (by omega) ?_ | refine A0 hG Y Y Y Y Y Y Y (by omega) ?_ | refine Bd hG Y Y ?_)
      | refine r_q hG Y Y Y ?_); try exact kk)
    | (show AL _ _ _ _ _ _ _ _; first | refine al_s Y Y Y ?_ | (refine Au ?_; first | show AW _ _ _ _ _ _ | show ∃ x', _ < _ ∧ _)) | (show AW _ _ (.seq _ _) _ _ _; refine Ai ?_; intro Q1) | (show AW _ _ (.region _ _ false) _ _ _; refine Af ?_; intro O1) | (show AW _ _ (.cond _ _ _) _ _ _; first | refine As Y ?_ | refine Av Y ?_ | refine aw_if Y (fun h => ?_) (fun h => ?_)) | (show AW _ _ (.skip) _ _ _; refine Aq ?_; first | show AW _ _ _ _ _ _ | show ∃ x', _ < _ ∧ _) | (show AW _ _ (.block _ _) _ _ _; refine A4 ?_; intro Q1) | (show AW _ _ (.exit _) _ _ _; refine Bh ?_; first | show AW _ _ _ _ _ _ | show ∃ x', _ < _ ∧ _) | (show AW _ _ (.ret) _ _ _; refine Ar ?_; try dsimp only [Am, Aa, Ao, Ad])
    | (show DL _ _ _ _ _ _ _; refine dl_d Y Y (fun K kt kf => Ak hG Y Y Y Y Y kt kf) (fun h => ?_) (fun h => ?_))
    | (show DL _ _ _ _ _ _ _; refine dl_s Y Y Y ?_) | (show DL _ _ _ _ _ _ _; refine Bj ?_; first | show AW _ _ _ _ _ _ | show ∃ x', _ < _ ∧ _) | (show AW _ _ (.region _ _ true) _ _ _; refine A1 mix (by kernel_rfl) ?_; intro O1) | fail)
    try dsimp (config := { zetaDelta := true }) only [Am, Aa]
    refine ret_row 0 (Bm rfl Bp) ?_ (.refl _) ?_ <;> rfl
theorem live_calls {P : Program} {σ : St} {g : FuncId} {ts : List T} {l : List UInt16} (h : ∀ off, ACalls P g ts ⟨[], [], off, none⟩ (LiveL l off)) (hnx : σ.nx = none) {K : T → St → Prop}
    (k0 : l = [] → K .nilsl σ) (k1 : l ≠ [] → ∀ i, K (.aref 1 i 0 l.length none) { σ with L := (i, .cells (rowT hT l.toArray)) :: σ.L }) : ACalls P g ts σ K := by
  refine (frame (Ls := []) (Lf := σ.L) (List.Perm.refl _) (R := fun u L R' => R' = [] ∧ ((l = [] ∧ u = .nilsl ∧ L = []) ∨ (l ≠ [] ∧ ∃ i, u = .aref 1 i 0 l.length none ∧ L = [(i, .cells (rowT hT l.toArray))]))) hnx fun off => (h off).mono fun u σ' h1 => ?_).mono ?_
  · rcases h1 with ⟨q1, q2, rfl⟩ | ⟨q1, i, q2, rfl⟩
    · exact ⟨rfl, rfl, .inl ⟨q1, q2, rfl⟩⟩
    · exact ⟨rfl, rfl, .inr ⟨q1, i, q2, rfl⟩⟩
  · rintro u σ' ⟨L', R', ⟨rfl, h2⟩, rfl⟩
    obtain ⟨L, R1, off, nx⟩ := σ
    simp only at hnx; subst hnx
    rcases h2 with ⟨q1, rfl, rfl⟩ | ⟨q1, i, rfl, rfl⟩
    · exact k0 q1
    · exact k1 q1 i
structure WrX (n : Nat) where
  q : Nat
  d : Array UInt16
  hn : d.size = n
  hq : q ≤ n
set_option maxHeartbeats 2000000 in
theorem all_pure {l m : List UInt16} {c : UInt16} (hl : l.length ≤ 140737488351232) (hm : m.length ≤ 140737488351232) : Ts.Pure Try.prog 5 [cT l, cT m, hT c] (.bool true) := by
  by_cases h1 : l.length ≤ 30
  case neg =>
    intro off
    refine Bn (N := 98) (rs := [.tmp 6]) hG Try.func5 rfl rfl rfl rfl rfl ?_
    repeat' (first
    | ((show AL _ _ _ _ _ _ _ _; refine Ah Y ?_); (first
      | (show AOp _ _ ⟨_, .move _, _, _, _, _⟩ _ _ _; refine Ap hG Y Y ?_)
      | (show AOp _ _ ⟨_, .assign _, _, _, _, _⟩ _ _ _; refine A6 hG Y Y ?_)
      | (show AOp _ _ ⟨_, .call ⟨.builtin .len, _, _⟩, _, _, _, _⟩ _ _ _; first | refine Ay hG Y Y Y Y ?_ | refine Bb hG Y Y Y Y Y ?_)
      | (show AOp _ _ ⟨_, .binOp .add _ _ _ _, _, _, _, _⟩ _ _ _; first | refine Al hG Y Y Y Y Y (by omega) ?_)
      | (show AOp _ _ ⟨_, .binOp _ _ _ _ _, _, _, _, _⟩ _ _ _; first | refine Aw hG Y Y Y Y Y (by omega) ?_ | refine Ax hG Y Y Y Y Y (by omega) ?_ | (refine Ak hG Y Y Y Y Y (fun h => ?_) (fun h => ?_)) | refine r_beq hG Y Y Y Y Y ?_)
      | (show AOp _ _ ⟨_, .indexAddr _ _ _, _, _, _, _⟩ _ _ _; first | refine Az hG Y Y Y Y Y Y Y (by omega) ?_ | refine A0 hG Y Y Y Y Y Y Y (by omega) ?_ | refine Bd hG Y Y ?_)
      | (show AOp _ _ ⟨_, .pick _ _ _, _, _, _, _⟩ _ _ _; refine Ba hG Y Y Y ?_)
      | (show AOp _ _ ⟨_, .unOp _ _ _, _, _, _, _⟩ _ _ _; refine r_not hG Y Y Y ?_)
      | (show AOp _ _ ⟨_, .store _ _ _, _, _, _, _⟩ _ _ _; first | refine r_st 0 hG Y Y Y Y Y Y Y ?_)
      | (show AOp _ _ ⟨_, .call ⟨.value _, _, _⟩, _, _, _, _⟩ _ _ _; first | refine A5 Y Y Y Y Y (by first | (apply c_begun <;> (first | assumption | omega | exact Ab _ _ | exact Ae _ | exact Ac _ _ | exact Ag _ | rfl | (simp; omega))) | fail) ?_ | fail)
      | refine r_q hG Y Y Y ?_))
    | (show AL _ _ _ _ _ _ _ _; first | refine al_s Y Y Y ?_ | (refine Au ?_; first | show AW _ _ _ _ _ _ | show ∃ x', _ < _ ∧ _)) | (show AW _ _ (.seq _ _) _ _ _; refine Ai ?_; intro Q1) | (show AW _ _ (.region _ _ false) _ _ _; refine Af ?_; intro O1) | (show AW _ _ (.cond _ _ _) _ _ _; first | refine As Y ?_ | refine Av Y ?_) | (show AW _ _ (.skip) _ _ _; refine Aq ?_; first | show AW _ _ _ _ _ _ | show ∃ x', _ < _ ∧ _) | (show AW _ _ (.block _ _) _ _ _; refine A4 ?_; intro Q1) | (show AW _ _ (.exit _) _ _ _; refine Bh ?_; first | show AW _ _ _ _ _ _ | show ∃ x', _ < _ ∧ _) | (show AW _ _ (.ret) _ _ _; refine Ar ?_; try dsimp only [Am, Aa, Ao, Ad]) | fail)
    exact Bv (Bm rfl Bp) (.refl _) rfl
  by_cases h2 : m.length ≤ 30
  case neg =>
    intro off
    refine Bn (N := 98) (rs := [.tmp 6]) hG Try.func5 rfl rfl rfl rfl rfl ?_
    repeat' (first
    | ((show AL _ _ _ _ _ _ _ _; refine Ah Y ?_); (first
      | (show AOp _ _ ⟨_, .move _, _, _, _, _⟩ _ _ _; refine Ap hG Y Y ?_)
      | (show AOp _ _ ⟨_, .assign _, _, _, _, _⟩ _ _ _; refine A6 hG Y Y ?_)
      | (show AOp _ _ ⟨_, .call ⟨.builtin .len, _, _⟩, _, _, _, _⟩ _ _ _; first | refine Ay hG Y Y Y Y ?_ | refine Bb hG Y Y Y Y Y ?_)
      | (show AOp _ _ ⟨_, .binOp .add _ _ _ _, _, _, _, _⟩ _ _ _; first | refine Al hG Y Y Y Y Y (by omega) ?_)
      | (show AOp _ _ ⟨_, .binOp _ _ _ _ _, _, _, _, _⟩ _ _ _; first | refine Aw hG Y Y Y Y Y (by omega) ?_ | refine Ax hG Y Y Y Y Y (by omega) ?_ | (refine Ak hG Y Y Y Y Y (fun h => ?_) (fun h => ?_)) | refine r_beq hG Y Y Y Y Y ?_)
      | (show AOp _ _ ⟨_, .indexAddr _ _ _, _, _, _, _⟩ _ _ _; first | refine Az hG Y Y Y Y Y Y Y (by omega) ?_ | refine A0 hG Y Y Y Y Y Y Y (by omega) ?_ | refine Bd hG Y Y ?_)
      | (show AOp _ _ ⟨_, .pick _ _ _, _, _, _, _⟩ _ _ _; refine Ba hG Y Y Y ?_)
      | (show AOp _ _ ⟨_, .unOp _ _ _, _, _, _, _⟩ _ _ _; refine r_not hG Y Y Y ?_)
      | (show AOp _ _ ⟨_, .store _ _ _, _, _, _, _⟩ _ _ _; first | refine r_st 0 hG Y Y Y Y Y Y Y ?_)
      | (show AOp _ _ ⟨_, .call ⟨.value _, _, _⟩, _, _, _, _⟩ _ _ _; first | refine A5 Y Y Y Y Y (by first | (apply c_begun <;> (first | assumption | omega | exact Ab _ _ | exact Ae _ | exact Ac _ _ | exact Ag _ | rfl | (simp; omega))) | fail) ?_ | fail)
      | refine r_q hG Y Y Y ?_))
    | (show AL _ _ _ _ _ _ _ _; first | refine al_s Y Y Y ?_ | (refine Au ?_; first | show AW _ _ _ _ _ _ | show ∃ x', _ < _ ∧ _)) | (show AW _ _ (.seq _ _) _ _ _; refine Ai ?_; intro Q1) | (show AW _ _ (.region _ _ false) _ _ _; refine Af ?_; intro O1) | (show AW _ _ (.cond _ _ _) _ _ _; first | refine As Y ?_ | refine Av Y ?_) | (show AW _ _ (.skip) _ _ _; refine Aq ?_; first | show AW _ _ _ _ _ _ | show ∃ x', _ < _ ∧ _) | (show AW _ _ (.block _ _) _ _ _; refine A4 ?_; intro Q1) | (show AW _ _ (.exit _) _ _ _; refine Bh ?_; first | show AW _ _ _ _ _ _ | show ∃ x', _ < _ ∧ _) | (show AW _ _ (.ret) _ _ _; refine Ar ?_; try dsimp only [Am, Aa, Ao, Ad]) | fail)
    exact Bv (Bm rfl Bp) (.refl _) rfl
  have m1 := ref_Make (Ag l) (show l.length ≤ 4294967000 by omega)
  have m2 := ref_Make (Ag m) (show m.length ≤ 4294967000 by omega)
  have la := len_mk l 30 h1
  have lb := len_mk m 30 h2
  have ua := mk_up l
  have ub := mk_up m
  generalize mk l = a at *
  generalize mk m = b at *
  obtain ⟨ab, hab⟩ : ∃ X, Bk kOr a b = X := ⟨_, rfl⟩
  obtain ⟨nab, hnab⟩ : ∃ X, Bk kAnd a b = X := ⟨_, rfl⟩
  obtain ⟨lab, hlab⟩ : ∃ X, Bk kLess a b = X := ⟨_, rfl⟩
  have kab : ab.length ≤ 60 := by have := merge_length_le kOr a b; rw [hab] at this; omega
  have knab : nab.length ≤ 60 := by have := merge_length_le kAnd a b; rw [hnab] at this; omega
  have klab : lab.length ≤ 60 := by have := merge_length_le kLess a b; rw [hlab] at this; omega
  obtain ⟨d, hd⟩ : ∃ d, decide (c ∈ a) = d := ⟨_, rfl⟩
  obtain ⟨s, hs⟩ : ∃ s, decide (lab = []) = s := ⟨_, rfl⟩
  have o1 : ∀ {x y}, catsT x = some a → catsT y = some b → ∀ off, ACalls Try.prog 17 [x, y] ⟨[], [], off, none⟩ (LiveL ab off) := fun hx hy off => hab ▸ or_live hx hy (by omega) off
  have o2 : ∀ {x y}, catsT x = some a → catsT y = some b → Owns Try.prog 20 [x, y] 1 (ab.map hT) := fun hx hy => by
    have := ref_Or hx hy (by omega); rwa [mk_or ua ub, hab] at this
  have n1 : ∀ {x y}, catsT x = some a → catsT y = some b → Owns Try.prog 21 [x, y] 1 (nab.map hT) := fun hx hy => hnab ▸ cats_And hx hy (by omega)
  have n2 : ∀ {x y}, catsT x = some a → catsT y = some b → Owns Try.prog 22 [x, y] 1 (nab.map hT) := fun hx hy => hnab ▸ ref_And hx hy ua ub (by omega) (by omega)
  have d1 : ∀ {x y}, catsT x = some a → catsT y = some b → Owns Try.prog 23 [x, y] 1 (lab.map hT) := fun hx hy => hlab ▸ cats_Less hx hy (by omega)
  have d2 : ∀ {x y}, catsT x = some a → catsT y = some b → Owns Try.prog 24 [x, y] 1 (lab.map hT) := fun hx hy => hlab ▸ ref_Less hx hy ua ub (by omega) (by omega)
  have i1 : ∀ {x y}, catsT x = some a → catsT y = some b → Pure Try.prog 25 [x, y] (.bool s) := fun hx hy => by
    have := cats_In hx hy (by omega); rwa [hlab, hs] at this
  have i2 : ∀ {x y}, catsT x = some a → catsT y = some b → Pure Try.prog 26 [x, y] (.bool s) := fun hx hy => ref_In hx hy ua ub (by omega) (by omega) (by rw [hlab]; exact hs)
  have g1 : ∀ {x}, catsT x = some a → Pure Try.prog 18 [x, hT c] (.bool d) := fun hx => by
    have := cats_Has (c := c) hx ua (by omega); rwa [hd] at this
  have g2 : ∀ {x}, catsT x = some a → Pure Try.prog 19 [x, hT c] (.bool d) := fun hx => by
    have := ref_Has (c := c) hx (show a.length ≤ 4294967296 by omega); rwa [hd] at this
  have sz : ab.toArray.size = ab.length := by simp
  have sL : ∀ {own}, OnRow Try.prog 11 hT [.sl 1 own (ab.map hT)] ab.toArray (.bool true) ab.toArray := fun {own} => by
    have := sameL (own := own) (c := ab.toArray) (b := ab) (by omega) (by omega)
    rwa [decide_eq_true (by simp)] at this
  clear hab hnab hlab ua ub hs hd
  intro off
  cases d <;> cases s
  all_goals
    refine Bn (N := 98) (rs := [.tmp 6]) hG Try.func5 rfl rfl rfl rfl rfl ?_
    repeat' (first
    | ((show AL _ _ _ _ _ _ _ _; refine Ah Y ?_); (first
      | (show AOp _ _ ⟨_, .move _, _, _, _, _⟩ _ _ _; refine Ap hG Y Y ?_)
      | (show AOp _ _ ⟨_, .assign _, _, _, _, _⟩ _ _ _; refine A6 hG Y Y ?_)
      | (show AOp _ _ ⟨_, .call ⟨.builtin .len, _, _⟩, _, _, _, _⟩ _ _ _; first | refine Ay hG Y Y Y Y ?_ | refine Bb hG Y Y Y Y Y ?_)
      | (show AOp _ _ ⟨_, .binOp .add _ _ _ _, _, _, _, _⟩ _ _ _; first | refine Al hG Y Y Y Y Y (by omega) ?_)
      | (show AOp _ _ ⟨_, .binOp _ _ _ _ _, _, _, _, _⟩ _ _ _; first | refine Aw hG Y Y Y Y Y (by omega) ?_ | refine Ax hG Y Y Y Y Y (by omega) ?_ | (refine Ak hG Y Y Y Y Y (fun h => ?_) (fun h => ?_)) | refine r_beq hG Y Y Y Y Y ?_)
      | (show AOp _ _ ⟨_, .indexAddr _ _ _, _, _, _, _⟩ _ _ _; first | refine Az hG Y Y Y Y Y Y Y (by omega) ?_ | refine A0 hG Y Y Y Y Y Y Y (by omega) ?_ | refine Bd hG Y Y ?_)
      | (show AOp _ _ ⟨_, .pick _ _ _, _, _, _, _⟩ _ _ _; refine Ba hG Y Y Y ?_)
      | (show AOp _ _ ⟨_, .unOp _ _ _, _, _, _, _⟩ _ _ _; refine r_not hG Y Y Y ?_)
      | (show AOp _ _ ⟨_, .store _ _ _, _, _, _, _⟩ _ _ _; first | refine r_st 0 hG Y Y Y Y Y Y Y ?_)
      | (show AOp _ _ ⟨_, .call ⟨.value _, _, _⟩, _, _, _, _⟩ _ _ _; first | refine A5 Y Y Y Y Y (by first | (apply c_begun <;> (first | assumption | omega | exact Ab _ _ | exact Ae _ | exact Ac _ _ | exact Ag _ | rfl | (simp; omega))) | fail) ?_ | (refine r_owns Y Y Y Y Y (by first | (apply m1 <;> (first | assumption | omega | exact Ab _ _ | exact Ae _ | exact Ac _ _ | exact Ag _ | rfl | (simp; omega))) | fail) (fun k => ?_)) | (have := kk; clear this; refine A5 Y Y Y Y Y (Owns.pure (by first | (apply m1 <;> (first | assumption | omega | exact Ab _ _ | exact Ae _ | exact Ac _ _ | exact Ag _ | rfl | (simp; omega))) | fail)) ?_) | (refine r_owns Y Y Y Y Y (by first | (apply m2 <;> (first | assumption | omega | exact Ab _ _ | exact Ae _ | exact Ac _ _ | exact Ag _ | rfl | (simp; omega))) | fail) (fun k => ?_)) | (have := kk; clear this; refine A5 Y Y Y Y Y (Owns.pure (by first | (apply m2 <;> (first | assumption | omega | exact Ab _ _ | exact Ae _ | exact Ac _ _ | exact Ag _ | rfl | (simp; omega))) | fail)) ?_) | fail)
      | refine r_q hG Y Y Y ?_))
    | (show AL _ _ _ _ _ _ _ _; first | refine al_s Y Y Y ?_ | (refine Au ?_; first | show AW _ _ _ _ _ _ | show ∃ x', _ < _ ∧ _)) | (show AW _ _ (.seq _ _) _ _ _; refine Ai ?_; intro Q1) | (show AW _ _ (.region _ _ false) _ _ _; refine Af ?_; intro O1) | (show AW _ _ (.cond _ _ _) _ _ _; first | refine As Y ?_ | refine Av Y ?_) | (show AW _ _ (.skip) _ _ _; refine Aq ?_; first | show AW _ _ _ _ _ _ | show ∃ x', _ < _ ∧ _) | (show AW _ _ (.block _ _) _ _ _; refine A4 ?_; intro Q1) | (show AW _ _ (.exit _) _ _ _; refine Bh ?_; first | show AW _ _ _ _ _ _ | show ∃ x', _ < _ ∧ _) | (show AW _ _ (.ret) _ _ _; refine Ar ?_; try dsimp only [Am, Aa, Ao, Ad]) | fail)
    refine Ah rfl (op_call rfl rfl rfl rfl rfl ?_)
    rw [List.append_nil]
    refine live_calls (o1 (Ac _ _) (Ac _ _)) rfl (fun he => ?_) (fun he i => ?_)
    · have s3 : ∀ {own}, Pure Try.prog 11 [.nilsl, .sl 1 own (ab.map hT)] (.bool true) := fun {own} => same_eq (a := ab) (by rw [he]; rfl) (Ac _ _) (by omega)
      repeat' (first
    | ((show AL _ _ _ _ _ _ _ _; refine Ah Y ?_); (first
      | (show AOp _ _ ⟨_, .move _, _, _, _, _⟩ _ _ _; refine Ap hG Y Y ?_)
      | (show AOp _ _ ⟨_, .assign _, _, _, _, _⟩ _ _ _; refine A6 hG Y Y ?_)
      | (show AOp _ _ ⟨_, .call ⟨.builtin .len, _, _⟩, _, _, _, _⟩ _ _ _; first | refine Ay hG Y Y Y Y ?_ | refine Bb hG Y Y Y Y Y ?_)
      | (show AOp _ _ ⟨_, .binOp .add _ _ _ _, _, _, _, _⟩ _ _ _; first | refine Al hG Y Y Y Y Y (by omega) ?_)
      | (show AOp _ _ ⟨_, .binOp _ _ _ _ _, _, _, _, _⟩ _ _ _; first | refine Aw hG Y Y Y Y Y (by omega) ?_ | refine Ax hG Y Y Y Y Y (by omega) ?_ | (refine Ak hG Y Y Y Y Y (fun h => ?_) (fun h => ?_)) | refine r_beq hG Y Y Y Y Y ?_)
      | (show AOp _ _ ⟨_, .indexAddr _ _ _, _, _, _, _⟩ _ _ _; first | refine Az hG Y Y Y Y Y Y Y (by omega) ?_ | refine A0 hG Y Y Y Y Y Y Y (by omega) ?_ | refine Bd hG Y Y ?_)
      | (show AOp _ _ ⟨_, .pick _ _ _, _, _, _, _⟩ _ _ _; refine Ba hG Y Y Y ?_)
      | (show AOp _ _ ⟨_, .unOp _ _ _, _, _, _, _⟩ _ _ _; refine r_not hG Y Y Y ?_)
      | (show AOp _ _ ⟨_, .store _ _ _, _, _, _, _⟩ _ _ _; first | refine r_st 0 hG Y Y Y Y Y Y Y ?_)
      | refine r_q hG Y Y Y ?_))
    | (show AL _ _ _ _ _ _ _ _; first | refine al_s Y Y Y ?_ | (refine Au ?_; first | show AW _ _ _ _ _ _ | show ∃ x', _ < _ ∧ _)) | (show AW _ _ (.seq _ _) _ _ _; refine Ai ?_; intro Q1) | (show AW _ _ (.region _ _ false) _ _ _; (fail_if_success show AW _ _ (.region 8 _ _) _ _ _); refine Af ?_; intro O1) | (show AW _ _ (.cond _ _ _) _ _ _; first | refine As Y ?_ | refine Av Y ?_) | (show AW _ _ (.skip) _ _ _; refine Aq ?_; first | show AW _ _ _ _ _ _ | show ∃ x', _ < _ ∧ _) | (show AW _ _ (.block _ _) _ _ _; refine A4 ?_; intro Q1) | (show AW _ _ (.exit _) _ _ _; refine Bh ?_; first | show AW _ _ _ _ _ _ | show ∃ x', _ < _ ∧ _) | (show AW _ _ (.ret) _ _ _; refine Ar ?_; try dsimp only [Am, Aa, Ao, Ad]) | fail)
      refine aw_forget (b := [(0, cT l), (1, cT m), (2, hT c), (7, .sl 1 .no (a.map hT)), (8, .sl 1 .no (b.map hT)), (9, .fn (.func 11) []), (10, .nilsl)]) (.cons rfl (.cons rfl (.cons rfl (.consW rfl (.own _ _ _) (.consW rfl (.own _ _ _) (.cons rfl (.cons rfl (.nil _)))))))) ?_
      refine aw_ghost (keep_step (L' := []) (R' := []) (List.nil_sublist _) (List.nil_sublist _)) ?_
      repeat' (first
    | ((show AL _ _ _ _ _ _ _ _; refine Ah Y ?_); (first
      | (show AOp _ _ ⟨_, .move _, _, _, _, _⟩ _ _ _; refine Ap hG Y Y ?_)
      | (show AOp _ _ ⟨_, .assign _, _, _, _, _⟩ _ _ _; refine A6 hG Y Y ?_)
      | (show AOp _ _ ⟨_, .call ⟨.builtin .len, _, _⟩, _, _, _, _⟩ _ _ _; first | refine Ay hG Y Y Y Y ?_ | refine Bb hG Y Y Y Y Y ?_)
      | (show AOp _ _ ⟨_, .binOp .add _ _ _ _, _, _, _, _⟩ _ _ _; first | refine Al hG Y Y Y Y Y (by omega) ?_)
      | (show AOp _ _ ⟨_, .binOp _ _ _ _ _, _, _, _, _⟩ _ _ _; first | refine Aw hG Y Y Y Y Y (by omega) ?_ | refine Ax hG Y Y Y Y Y (by omega) ?_ | (refine Ak hG Y Y Y Y Y (fun h => ?_) (fun h => ?_)) | refine r_beq hG Y Y Y Y Y ?_)
      | (show AOp _ _ ⟨_, .indexAddr _ _ _, _, _, _, _⟩ _ _ _; first | refine Az hG Y Y Y Y Y Y Y (by omega) ?_ | refine A0 hG Y Y Y Y Y Y Y (by omega) ?_ | refine Bd hG Y Y ?_)
      | (show AOp _ _ ⟨_, .pick _ _ _, _, _, _, _⟩ _ _ _; refine Ba hG Y Y Y ?_)
      | (show AOp _ _ ⟨_, .unOp _ _ _, _, _, _, _⟩ _ _ _; refine r_not hG Y Y Y ?_)
      | (show AOp _ _ ⟨_, .store _ _ _, _, _, _, _⟩ _ _ _; first | refine r_st 0 hG Y Y Y Y Y Y Y ?_)
      | (show AOp _ _ ⟨_, .call ⟨.value _, _, _⟩, _, _, _, _⟩ _ _ _; first | refine A5 Y Y Y Y Y (by first | (apply i1 <;> (first | assumption | omega | exact Ab _ _ | exact Ae _ | exact Ac _ _ | exact Ag _ | rfl | (simp; omega))) | fail) ?_ | refine A5 Y Y Y Y Y (by first | (apply i2 <;> (first | assumption | omega | exact Ab _ _ | exact Ae _ | exact Ac _ _ | exact Ag _ | rfl | (simp; omega))) | fail) ?_ | refine A5 Y Y Y Y Y (by first | (apply g1 <;> (first | assumption | omega | exact Ab _ _ | exact Ae _ | exact Ac _ _ | exact Ag _ | rfl | (simp; omega))) | fail) ?_ | refine A5 Y Y Y Y Y (by first | (apply g2 <;> (first | assumption | omega | exact Ab _ _ | exact Ae _ | exact Ac _ _ | exact Ag _ | rfl | (simp; omega))) | fail) ?_ | refine A5 Y Y Y Y Y (by first | (apply s3 <;> (first | assumption | omega | exact Ab _ _ | exact Ae _ | exact Ac _ _ | exact Ag _ | rfl | (simp; omega))) | fail) ?_ | refine A5 Y Y Y Y Y (by first | (apply same_eq <;> (first | assumption | omega | exact Ab _ _ | exact Ae _ | exact Ac _ _ | exact Ag _ | rfl | (simp; omega))) | fail) ?_ | (refine r_owns Y Y Y Y Y (by first | (apply o2 <;> (first | assumption | omega | exact Ab _ _ | exact Ae _ | exact Ac _ _ | exact Ag _ | rfl | (simp; omega))) | fail) (fun k => ?_)) | (have := kk; clear this; refine A5 Y Y Y Y Y (Owns.pure (by first | (apply o2 <;> (first | assumption | omega | exact Ab _ _ | exact Ae _ | exact Ac _ _ | exact Ag _ | rfl | (simp; omega))) | fail)) ?_) | (refine r_owns Y Y Y Y Y (by first | (apply n1 <;> (first | assumption | omega | exact Ab _ _ | exact Ae _ | exact Ac _ _ | exact Ag _ | rfl | (simp; omega))) | fail) (fun k => ?_)) | (have := kk; clear this; refine A5 Y Y Y Y Y (Owns.pure (by first | (apply n1 <;> (first | assumption | omega | exact Ab _ _ | exact Ae _ | exact Ac _ _ | exact Ag _ | rfl | (simp; omega))) | fail)) ?_) | (refine r_owns Y Y Y Y Y (by first | (apply n2 <;> (first | assumption | omega | exact Ab _ _ | exact Ae _ | exact Ac _ _ | exact Ag _ | rfl | (simp; omega))) | fail) (fun k => ?_)) | (have := kk; clear this; refine A5 Y Y Y Y Y (Owns.pure (by first | (apply n2 <;> (first | assumption | omega | exact Ab _ _ | exact Ae _ | exact Ac _ _ | exact Ag _ | rfl | (simp; omega))) | fail)) ?_) | (refine r_owns Y Y Y Y Y (by first | (apply d1 <;> (first | assumption | omega | exact Ab _ _ | exact Ae _ | exact Ac _ _ | exact Ag _ | rfl | (simp; omega))) | fail) (fun k => ?_)) | (have := kk; clear this; refine A5 Y Y Y Y Y (Owns.pure (by first | (apply d1 <;> (first | assumption | omega | exact Ab _ _ | exact Ae _ | exact Ac _ _ | exact Ag _ | rfl | (simp; omega))) | fail)) ?_) | (refine r_owns Y Y Y Y Y (by first | (apply d2 <;> (first | assumption | omega | exact Ab _ _ | exact Ae _ | exact Ac _ _ | exact Ag _ | rfl | (simp; omega))) | fail) (fun k => ?_)) | (have := kk; clear this; refine A5 Y Y Y Y Y (Owns.pure (by first | (apply d2 <;> (first | assumption | omega | exact Ab _ _ | exact Ae _ | exact Ac _ _ | exact Ag _ | rfl | (simp; omega))) | fail)) ?_) | fail)
      | refine r_q hG Y Y Y ?_))
    | (show AL _ _ _ _ _ _ _ _; first | refine al_s Y Y Y ?_ | (refine Au ?_; first | show AW _ _ _ _ _ _ | show ∃ x', _ < _ ∧ _)) | (show AW _ _ (.seq _ _) _ _ _; refine Ai ?_; intro Q1) | (show AW _ _ (.region _ _ false) _ _ _; refine Af ?_; intro O1) | (show AW _ _ (.cond _ _ _) _ _ _; first | refine As Y ?_ | refine Av Y ?_) | (show AW _ _ (.skip) _ _ _; refine Aq ?_; first | show AW _ _ _ _ _ _ | show ∃ x', _ < _ ∧ _) | (show AW _ _ (.block _ _) _ _ _; refine A4 ?_; intro Q1) | (show AW _ _ (.exit _) _ _ _; refine Bh ?_; first | show AW _ _ _ _ _ _ | show ∃ x', _ < _ ∧ _) | (show AW _ _ (.ret) _ _ _; refine Ar ?_; try dsimp only [Am, Aa, Ao, Ad]) | fail)
      refine aw_loop (X := Unit) (fun _ => [(0, cT l), (1, cT m), (7, .sl 1 .no (a.map hT)), (8, .sl 1 .no (b.map hT)), (9, .fn (.func 11) []), (10, .nilsl), (11, .bool true), (12, .int .i64 0)]) (fun _ => ⟨[], [], off, none⟩) (fun _ => 0) () (by repeat (first | exact .nil _ | refine .cons rfl ?_)) (keep_step (L' := []) (R' := []) (List.nil_sublist _) (List.nil_sublist _)) ?_
      intro _
      repeat' (first
    | ((show AL _ _ _ _ _ _ _ _; refine Ah Y ?_); (first
      | (show AOp _ _ ⟨_, .move _, _, _, _, _⟩ _ _ _; refine Ap hG Y Y ?_)
      | (show AOp _ _ ⟨_, .assign _, _, _, _, _⟩ _ _ _; refine A6 hG Y Y ?_)
      | (show AOp _ _ ⟨_, .call ⟨.builtin .len, _, _⟩, _, _, _, _⟩ _ _ _; first | refine Ay hG Y Y Y Y ?_ | refine Bb hG Y Y Y Y Y ?_)
      | (show AOp _ _ ⟨_, .binOp .add _ _ _ _, _, _, _, _⟩ _ _ _; first | refine Al hG Y Y Y Y Y (by omega) ?_)
      | (show AOp _ _ ⟨_, .binOp _ _ _ _ _, _, _, _, _⟩ _ _ _; first | refine Aw hG Y Y Y Y Y (by omega) ?_ | refine Ax hG Y Y Y Y Y (by omega) ?_ | (refine Ak hG Y Y Y Y Y (fun h => ?_) (fun h => ?_)) | refine r_beq hG Y Y Y Y Y ?_)
      | (show AOp _ _ ⟨_, .indexAddr _ _ _, _, _, _, _⟩ _ _ _; first | refine Az hG Y Y Y Y Y Y Y (by omega) ?_ | refine A0 hG Y Y Y Y Y Y Y (by omega) ?_ | refine Bd hG Y Y ?_)
      | (show AOp _ _ ⟨_, .pick _ _ _, _, _, _, _⟩ _ _ _; refine Ba hG Y Y Y ?_)
      | (show AOp _ _ ⟨_, .unOp _ _ _, _, _, _, _⟩ _ _ _; refine r_not hG Y Y Y ?_)
      | (show AOp _ _ ⟨_, .store _ _ _, _, _, _, _⟩ _ _ _; first | refine r_st 0 hG Y Y Y Y Y Y Y ?_)
      | (show AOp _ _ ⟨_, .call ⟨.value _, _, _⟩, _, _, _, _⟩ _ _ _; first | refine A5 Y Y Y Y Y (by first | (apply same_eq <;> (first | assumption | omega | exact Ab _ _ | exact Ae _ | exact Ac _ _ | exact Ag _ | rfl | (simp; omega))) | fail) ?_ | (refine r_owns Y Y Y Y Y (by first | (apply m1 <;> (first | assumption | omega | exact Ab _ _ | exact Ae _ | exact Ac _ _ | exact Ag _ | rfl | (simp; omega))) | fail) (fun k => ?_)) | (have := kk; clear this; refine A5 Y Y Y Y Y (Owns.pure (by first | (apply m1 <;> (first | assumption | omega | exact Ab _ _ | exact Ae _ | exact Ac _ _ | exact Ag _ | rfl | (simp; omega))) | fail)) ?_) | (refine r_owns Y Y Y Y Y (by first | (apply m2 <;> (first | assumption | omega | exact Ab _ _ | exact Ae _ | exact Ac _ _ | exact Ag _ | rfl | (simp; omega))) | fail) (fun k => ?_)) | (have := kk; clear this; refine A5 Y Y Y Y Y (Owns.pure (by first | (apply m2 <;> (first | assumption | omega | exact Ab _ _ | exact Ae _ | exact Ac _ _ | exact Ag _ | rfl | (simp; omega))) | fail)) ?_) | fail)
      | refine r_q hG Y Y Y ?_))
    | (show AL _ _ _ _ _ _ _ _; first | refine al_s Y Y Y ?_ | (refine Au ?_; first | show AW _ _ _ _ _ _ | show ∃ x', _ < _ ∧ _)) | (show AW _ _ (.seq _ _) _ _ _; refine Ai ?_; intro Q1) | (show AW _ _ (.region _ _ false) _ _ _; refine Af ?_; intro O1) | (show AW _ _ (.cond _ _ _) _ _ _; first | refine As Y ?_ | refine Av Y ?_) | (show AW _ _ (.skip) _ _ _; refine Aq ?_; first | show AW _ _ _ _ _ _ | show ∃ x', _ < _ ∧ _) | (show AW _ _ (.block _ _) _ _ _; refine A4 ?_; intro Q1) | (show AW _ _ (.exit _) _ _ _; refine Bh ?_; first | show AW _ _ _ _ _ _ | show ∃ x', _ < _ ∧ _) | (show AW _ _ (.ret) _ _ _; refine Ar ?_; try dsimp only [Am, Aa, Ao, Ad]) | fail)
      exact Bv (Bm rfl Bp) (.refl _) rfl
    · repeat' (first
    | ((show AL _ _ _ _ _ _ _ _; refine Ah Y ?_); (first
      | (show AOp _ _ ⟨_, .move _, _, _, _, _⟩ _ _ _; refine Ap hG Y Y ?_)
      | (show AOp _ _ ⟨_, .assign _, _, _, _, _⟩ _ _ _; refine A6 hG Y Y ?_)
      | (show AOp _ _ ⟨_, .call ⟨.builtin .len, _, _⟩, _, _, _, _⟩ _ _ _; first | refine Ay hG Y Y Y Y ?_ | refine Bb hG Y Y Y Y Y ?_)
      | (show AOp _ _ ⟨_, .binOp .add _ _ _ _, _, _, _, _⟩ _ _ _; first | refine Al hG Y Y Y Y Y (by omega) ?_)
      | (show AOp _ _ ⟨_, .binOp _ _ _ _ _, _, _, _, _⟩ _ _ _; first | refine Aw hG Y Y Y Y Y (by omega) ?_ | refine Ax hG Y Y Y Y Y (by omega) ?_ | (refine Ak hG Y Y Y Y Y (fun h => ?_) (fun h => ?_)) | refine r_beq hG Y Y Y Y Y ?_)
      | (show AOp _ _ ⟨_, .indexAddr _ _ _, _, _, _, _⟩ _ _ _; first | refine Az hG Y Y Y Y Y Y Y (by omega) ?_ | refine A0 hG Y Y Y Y Y Y Y (by omega) ?_ | refine Bd hG Y Y ?_)
      | (show AOp _ _ ⟨_, .pick _ _ _, _, _, _, _⟩ _ _ _; refine Ba hG Y Y Y ?_)
      | (show AOp _ _ ⟨_, .unOp _ _ _, _, _, _, _⟩ _ _ _; refine r_not hG Y Y Y ?_)
      | (show AOp _ _ ⟨_, .store _ _ _, _, _, _, _⟩ _ _ _; first | refine r_st 0 hG Y Y Y Y Y Y Y ?_)
      | refine r_q hG Y Y Y ?_))
    | (show AL _ _ _ _ _ _ _ _; first | refine al_s Y Y Y ?_ | (refine Au ?_; first | show AW _ _ _ _ _ _ | show ∃ x', _ < _ ∧ _)) | (show AW _ _ (.seq _ _) _ _ _; refine Ai ?_; intro Q1) | (show AW _ _ (.region _ _ false) _ _ _; (fail_if_success show AW _ _ (.region 8 _ _) _ _ _); refine Af ?_; intro O1) | (show AW _ _ (.cond _ _ _) _ _ _; first | refine As Y ?_ | refine Av Y ?_) | (show AW _ _ (.skip) _ _ _; refine Aq ?_; first | show AW _ _ _ _ _ _ | show ∃ x', _ < _ ∧ _) | (show AW _ _ (.block _ _) _ _ _; refine A4 ?_; intro Q1) | (show AW _ _ (.exit _) _ _ _; refine Bh ?_; first | show AW _ _ _ _ _ _ | show ∃ x', _ < _ ∧ _) | (show AW _ _ (.ret) _ _ _; refine Ar ?_; try dsimp only [Am, Aa, Ao, Ad]) | fail)
      refine aw_forget (b := [(0, cT l), (1, cT m), (2, hT c), (7, .sl 1 .no (a.map hT)), (8, .sl 1 .no (b.map hT)), (9, .fn (.func 11) []), (10, .aref 1 i 0 ab.length none)]) (.cons rfl (.cons rfl (.cons rfl (.consW rfl (.own _ _ _) (.consW rfl (.own _ _ _) (.cons rfl (.cons rfl (.nil _)))))))) ?_
      refine aw_ghost (keep_step (L' := [(i, .cells (rowT hT ab.toArray))]) (R' := []) (List.Sublist.refl _) (List.nil_sublist _)) ?_
      repeat' (first
    | ((show AL _ _ _ _ _ _ _ _; refine Ah Y ?_); (first
      | (show AOp _ _ ⟨_, .move _, _, _, _, _⟩ _ _ _; refine Ap hG Y Y ?_)
      | (show AOp _ _ ⟨_, .assign _, _, _, _, _⟩ _ _ _; refine A6 hG Y Y ?_)
      | (show AOp _ _ ⟨_, .call ⟨.builtin .len, _, _⟩, _, _, _, _⟩ _ _ _; first | refine Ay hG Y Y Y Y ?_ | refine Bb hG Y Y Y Y Y ?_)
      | (show AOp _ _ ⟨_, .binOp .add _ _ _ _, _, _, _, _⟩ _ _ _; first | refine r_arN hG Y Y Y Y Y (by omega) ?_ | refine r_arN (m := 1) hG Y Y Y Y Y (by omega) ?_ | refine Al hG Y Y Y Y Y (by omega) ?_)
      | (show AOp _ _ ⟨_, .binOp _ _ _ _ _, _, _, _, _⟩ _ _ _; first | refine Aw hG Y Y Y Y Y (by omega) ?_ | refine Ax hG Y Y Y Y Y (by omega) ?_ | (refine Ak hG Y Y Y Y Y (fun h => ?_) (fun h => ?_)) | refine r_beq hG Y Y Y Y Y ?_)
      | (show AOp _ _ ⟨_, .indexAddr _ _ _, _, _, _, _⟩ _ _ _; first | refine r_idxL hG Y Y Y Y Y Y Y (by omega) ?_ | refine Az hG Y Y Y Y Y Y Y (by omega) ?_ | refine A0 hG Y Y Y Y Y Y Y (by omega) ?_ | refine Bd hG Y Y ?_)
      | (show AOp _ _ ⟨_, .pick _ _ _, _, _, _, _⟩ _ _ _; refine Ba hG Y Y Y ?_)
      | (show AOp _ _ ⟨_, .unOp _ _ _, _, _, _, _⟩ _ _ _; refine r_not hG Y Y Y ?_)
      | (show AOp _ _ ⟨_, .store _ _ _, _, _, _, _⟩ _ _ _; first | refine r_stL (α := UInt16) 0 hG Y Y Y hT_cells hT_sc Y Y (by first | omega | (simp only [Array.size_setIfInBounds]; omega)) ?_ | refine r_st 0 hG Y Y Y Y Y Y Y ?_)
      | (show AOp _ _ ⟨_, .call ⟨.value _, _, _⟩, _, _, _, _⟩ _ _ _; first | refine A5 Y Y Y Y Y (by first | (apply i1 <;> (first | assumption | omega | exact Ab _ _ | exact Ae _ | exact Ac _ _ | exact Ag _ | rfl | (simp; omega))) | fail) ?_ | refine A5 Y Y Y Y Y (by first | (apply i2 <;> (first | assumption | omega | exact Ab _ _ | exact Ae _ | exact Ac _ _ | exact Ag _ | rfl | (simp; omega))) | fail) ?_ | refine A5 Y Y Y Y Y (by first | (apply g1 <;> (first | assumption | omega | exact Ab _ _ | exact Ae _ | exact Ac _ _ | exact Ag _ | rfl | (simp; omega))) | fail) ?_ | refine A5 Y Y Y Y Y (by first | (apply g2 <;> (first | assumption | omega | exact Ab _ _ | exact Ae _ | exact Ac _ _ | exact Ag _ | rfl | (simp; omega))) | fail) ?_ | refine A5 Y Y Y Y Y (by first | (apply same_eq <;> (first | assumption | omega | exact Ab _ _ | exact Ae _ | exact Ac _ _ | exact Ag _ | rfl | (simp; omega))) | fail) ?_ | (refine r_owns Y Y Y Y Y (by first | (apply o2 <;> (first | assumption | omega | exact Ab _ _ | exact Ae _ | exact Ac _ _ | exact Ag _ | rfl | (simp; omega))) | fail) (fun k => ?_)) | (have := kk; clear this; refine A5 Y Y Y Y Y (Owns.pure (by first | (apply o2 <;> (first | assumption | omega | exact Ab _ _ | exact Ae _ | exact Ac _ _ | exact Ag _ | rfl | (simp; omega))) | fail)) ?_) | (refine r_owns Y Y Y Y Y (by first | (apply n1 <;> (first | assumption | omega | exact Ab _ _ | exact Ae _ | exact Ac _ _ | exact Ag _ | rfl | (simp; omega))) | fail) (fun k => ?_)) | (have := kk; clear this; refine A5 Y Y Y Y Y (Owns.pure (by first | (apply n1 <;> (first | assumption | omega | exact Ab _ _ | exact Ae _ | exact Ac _ _ | exact Ag _ | rfl | (simp; omega))) | fail)) ?_) | (refine r_owns Y Y Y Y Y (by first | (apply n2 <;> (first | assumption | omega | exact Ab _ _ | exact Ae _ | exact Ac _ _ | exact Ag _ | rfl | (simp; omega))) | fail) (fun k => ?_)) | (have := kk; clear this; refine A5 Y Y Y Y Y (Owns.pure (by first | (apply n2 <;> (first | assumption | omega | exact Ab _ _ | exact Ae _ | exact Ac _ _ | exact Ag _ | rfl | (simp; omega))) | fail)) ?_) | (refine r_owns Y Y Y Y Y (by first | (apply d1 <;> (first | assumption | omega | exact Ab _ _ | exact Ae _ | exact Ac _ _ | exact Ag _ | rfl | (simp; omega))) | fail) (fun k => ?_)) | (have := kk; clear this; refine A5 Y Y Y Y Y (Owns.pure (by first | (apply d1 <;> (first | assumption | omega | exact Ab _ _ | exact Ae _ | exact Ac _ _ | exact Ag _ | rfl | (simp; omega))) | fail)) ?_) | (refine r_owns Y Y Y Y Y (by first | (apply d2 <;> (first | assumption | omega | exact Ab _ _ | exact Ae _ | exact Ac _ _ | exact Ag _ | rfl | (simp; omega))) | fail) (fun k => ?_)) | (have := kk; clear this; refine A5 Y Y Y Y Y (Owns.pure (by first | (apply d2 <;> (first | assumption | omega | exact Ab _ _ | exact Ae _ | exact Ac _ _ | exact Ag _ | rfl | (simp; omega))) | fail)) ?_) | refine r_row Y Y Y Y Y (List.Perm.refl _) sL (by assumption) ?_ | fail)
      | refine r_q hG Y Y Y ?_))
    | (show AL _ _ _ _ _ _ _ _; first | refine al_s Y Y Y ?_ | (refine Au ?_; first | show AW _ _ _ _ _ _ | show ∃ x', _ < _ ∧ _)) | (show AW _ _ (.seq _ _) _ _ _; refine Ai ?_; intro Q1) | (show AW _ _ (.region _ _ false) _ _ _; refine Af ?_; intro O1) | (show AW _ _ (.cond _ _ _) _ _ _; first | refine As Y ?_ | refine Av Y ?_ | refine aw_if Y (fun h => ?_) (fun h => ?_)) | (show AW _ _ (.skip) _ _ _; refine Aq ?_; first | show AW _ _ _ _ _ _ | show ∃ x', _ < _ ∧ _) | (show AW _ _ (.block _ _) _ _ _; refine A4 ?_; intro Q1) | (show AW _ _ (.exit _) _ _ _; refine Bh ?_; first | show AW _ _ _ _ _ _ | show ∃ x', _ < _ ∧ _) | (show AW _ _ (.ret) _ _ _; refine Ar ?_; try dsimp only [Am, Aa, Ao, Ad]) | fail)
      refine aw_loop (X := WrX ab.length) (fun x => [(0, cT l), (1, cT m), (7, .sl 1 .no (a.map hT)), (8, .sl 1 .no (b.map hT)), (9, .fn (.func 11) []), (10, .aref 1 i 0 ab.length none), (11, .bool true), (12, .int .i64 (x.q : Int))]) (fun x => ⟨[(i, .cells (rowT hT x.d))], [], off, none⟩) (fun x => ab.length - x.q) ⟨0, ab.toArray, sz, Nat.zero_le _⟩ (by repeat (first | exact .nil _ | refine .cons rfl ?_)) (keep_step (L' := [(i, .cells (rowT hT ab.toArray))]) (R' := []) (List.Sublist.refl _) (List.nil_sublist _)) ?_
      rintro ⟨q, e, hn, hq⟩
      dsimp only
      by_cases hqn : q < ab.length
      · repeat' (first
    | ((show AL _ _ _ _ _ _ _ _; refine Ah Y ?_); (first
      | (show AOp _ _ ⟨_, .move _, _, _, _, _⟩ _ _ _; refine Ap hG Y Y ?_)
      | (show AOp _ _ ⟨_, .assign _, _, _, _, _⟩ _ _ _; refine A6 hG Y Y ?_)
      | (show AOp _ _ ⟨_, .call ⟨.builtin .len, _, _⟩, _, _, _, _⟩ _ _ _; first | refine Ay hG Y Y Y Y ?_ | refine Bb hG Y Y Y Y Y ?_)
      | (show AOp _ _ ⟨_, .binOp .add _ _ _ _, _, _, _, _⟩ _ _ _; first | refine r_arN hG Y Y Y Y Y (by omega) ?_ | refine r_arN (m := 1) hG Y Y Y Y Y (by omega) ?_ | refine Al hG Y Y Y Y Y (by omega) ?_)
      | (show AOp _ _ ⟨_, .binOp _ _ _ _ _, _, _, _, _⟩ _ _ _; first | refine Aw hG Y Y Y Y Y (by omega) ?_ | refine Ax hG Y Y Y Y Y (by omega) ?_ | (refine Ak hG Y Y Y Y Y (fun h => ?_) (fun h => ?_)) | refine r_beq hG Y Y Y Y Y ?_)
      | (show AOp _ _ ⟨_, .indexAddr _ _ _, _, _, _, _⟩ _ _ _; first | refine r_idxL hG Y Y Y Y Y Y Y (by omega) ?_ | refine Az hG Y Y Y Y Y Y Y (by omega) ?_ | refine A0 hG Y Y Y Y Y Y Y (by omega) ?_ | refine Bd hG Y Y ?_)
      | (show AOp _ _ ⟨_, .pick _ _ _, _, _, _, _⟩ _ _ _; refine Ba hG Y Y Y ?_)
      | (show AOp _ _ ⟨_, .unOp _ _ _, _, _, _, _⟩ _ _ _; refine r_not hG Y Y Y ?_)
      | (show AOp _ _ ⟨_, .store _ _ _, _, _, _, _⟩ _ _ _; fail)
      | refine r_q hG Y Y Y ?_))
    | (show AL _ _ _ _ _ _ _ _; first | refine al_s Y Y Y ?_ | (refine Au ?_; first | show AW _ _ _ _ _ _ | show ∃ x', _ < _ ∧ _)) | (show AW _ _ (.seq _ _) _ _ _; refine Ai ?_; intro Q1) | (show AW _ _ (.region _ _ false) _ _ _; refine Af ?_; intro O1) | (show AW _ _ (.cond _ _ _) _ _ _; first | refine As Y ?_ | refine Av Y ?_ | refine aw_if Y (fun h => ?_) (fun h => ?_)) | (show AW _ _ (.skip) _ _ _; refine Aq ?_; first | show AW _ _ _ _ _ _ | show ∃ x', _ < _ ∧ _) | (show AW _ _ (.block _ _) _ _ _; refine A4 ?_; intro Q1) | (show AW _ _ (.exit _) _ _ _; refine Bh ?_; first | show AW _ _ _ _ _ _ | show ∃ x', _ < _ ∧ _) | (show AW _ _ (.ret) _ _ _; refine Ar ?_; try dsimp only [Am, Aa, Ao, Ad]) | fail)
        refine Ah rfl (r_stL (α := UInt16) (v := 9) 0 hG rfl rfl rfl hT_cells hT_sc rfl rfl (by omega) ?_)
        repeat' (first
    | ((show AL _ _ _ _ _ _ _ _; refine Ah Y ?_); (first
      | (show AOp _ _ ⟨_, .move _, _, _, _, _⟩ _ _ _; refine Ap hG Y Y ?_)
      | (show AOp _ _ ⟨_, .assign _, _, _, _, _⟩ _ _ _; refine A6 hG Y Y ?_)
      | (show AOp _ _ ⟨_, .call ⟨.builtin .len, _, _⟩, _, _, _, _⟩ _ _ _; first | refine Ay hG Y Y Y Y ?_ | refine Bb hG Y Y Y Y Y ?_)
      | (show AOp _ _ ⟨_, .binOp .add _ _ _ _, _, _, _, _⟩ _ _ _; first | refine r_arN hG Y Y Y Y Y (by omega) ?_ | refine r_arN (m := 1) hG Y Y Y Y Y (by omega) ?_ | refine Al hG Y Y Y Y Y (by omega) ?_)
      | (show AOp _ _ ⟨_, .binOp _ _ _ _ _, _, _, _, _⟩ _ _ _; first | refine Aw hG Y Y Y Y Y (by omega) ?_ | refine Ax hG Y Y Y Y Y (by omega) ?_ | (refine Ak hG Y Y Y Y Y (fun h => ?_) (fun h => ?_)) | refine r_beq hG Y Y Y Y Y ?_)
      | (show AOp _ _ ⟨_, .indexAddr _ _ _, _, _, _, _⟩ _ _ _; first | refine r_idxL hG Y Y Y Y Y Y Y (by omega) ?_ | refine Az hG Y Y Y Y Y Y Y (by omega) ?_ | refine A0 hG Y Y Y Y Y Y Y (by omega) ?_ | refine Bd hG Y Y ?_)
      | (show AOp _ _ ⟨_, .pick _ _ _, _, _, _, _⟩ _ _ _; refine Ba hG Y Y Y ?_)
      | (show AOp _ _ ⟨_, .unOp _ _ _, _, _, _, _⟩ _ _ _; refine r_not hG Y Y Y ?_)
      | (show AOp _ _ ⟨_, .store _ _ _, _, _, _, _⟩ _ _ _; first | refine r_stL (α := UInt16) 0 hG Y Y Y hT_cells hT_sc Y Y (by first | omega | (simp only [Array.size_setIfInBounds]; omega)) ?_ | refine r_st 0 hG Y Y Y Y Y Y Y ?_)
      | refine r_q hG Y Y Y ?_))
    | (show AL _ _ _ _ _ _ _ _; first | refine al_s Y Y Y ?_ | (refine Au ?_; first | show AW _ _ _ _ _ _ | show ∃ x', _ < _ ∧ _)) | (show AW _ _ (.seq _ _) _ _ _; refine Ai ?_; intro Q1) | (show AW _ _ (.region _ _ false) _ _ _; refine Af ?_; intro O1) | (show AW _ _ (.cond _ _ _) _ _ _; first | refine As Y ?_ | refine Av Y ?_ | refine aw_if Y (fun h => ?_) (fun h => ?_)) | (show AW _ _ (.skip) _ _ _; refine Aq ?_; first | show AW _ _ _ _ _ _ | show ∃ x', _ < _ ∧ _) | (show AW _ _ (.block _ _) _ _ _; refine A4 ?_; intro Q1) | (show AW _ _ (.exit _) _ _ _; refine Bh ?_; first | show AW _ _ _ _ _ _ | show ∃ x', _ < _ ∧ _) | (show AW _ _ (.ret) _ _ _; refine Ar ?_; try dsimp only [Am, Aa, Ao, Ad]) | fail)
        exact ⟨⟨q + 1, e.setIfInBounds q 9, by rw [Array.size_setIfInBounds]; exact hn, by omega⟩, by dsimp only; omega, (by repeat (first | exact .nil _ | refine .cons rfl ?_)), .refl _⟩
      · repeat' (first
    | ((show AL _ _ _ _ _ _ _ _; refine Ah Y ?_); (first
      | (show AOp _ _ ⟨_, .move _, _, _, _, _⟩ _ _ _; refine Ap hG Y Y ?_)
      | (show AOp _ _ ⟨_, .assign _, _, _, _, _⟩ _ _ _; refine A6 hG Y Y ?_)
      | (show AOp _ _ ⟨_, .call ⟨.builtin .len, _, _⟩, _, _, _, _⟩ _ _ _; first | refine Ay hG Y Y Y Y ?_ | refine Bb hG Y Y Y Y Y ?_)
      | (show AOp _ _ ⟨_, .binOp .add _ _ _ _, _, _, _, _⟩ _ _ _; first | refine r_arN hG Y Y Y Y Y (by omega) ?_ | refine r_arN (m := 1) hG Y Y Y Y Y (by omega) ?_ | refine Al hG Y Y Y Y Y (by omega) ?_)
      | (show AOp _ _ ⟨_, .binOp _ _ _ _ _, _, _, _, _⟩ _ _ _; first | refine Aw hG Y Y Y Y Y (by omega) ?_ | refine Ax hG Y Y Y Y Y (by omega) ?_ | (refine Ak hG Y Y Y Y Y (fun h => ?_) (fun h => ?_)) | refine r_beq hG Y Y Y Y Y ?_)
      | (show AOp _ _ ⟨_, .indexAddr _ _ _, _, _, _, _⟩ _ _ _; first | refine r_idxL hG Y Y Y Y Y Y Y (by omega) ?_ | refine Az hG Y Y Y Y Y Y Y (by omega) ?_ | refine A0 hG Y Y Y Y Y Y Y (by omega) ?_ | refine Bd hG Y Y ?_)
      | (show AOp _ _ ⟨_, .pick _ _ _, _, _, _, _⟩ _ _ _; refine Ba hG Y Y Y ?_)
      | (show AOp _ _ ⟨_, .unOp _ _ _, _, _, _, _⟩ _ _ _; refine r_not hG Y Y Y ?_)
      | (show AOp _ _ ⟨_, .store _ _ _, _, _, _, _⟩ _ _ _; first | refine r_stL (α := UInt16) 0 hG Y Y Y hT_cells hT_sc Y Y (by first | omega | (simp only [Array.size_setIfInBounds]; omega)) ?_ | refine r_st 0 hG Y Y Y Y Y Y Y ?_)
      | (show AOp _ _ ⟨_, .call ⟨.value _, _, _⟩, _, _, _, _⟩ _ _ _; first | refine A5 Y Y Y Y Y (by first | (apply same_eq <;> (first | assumption | omega | exact Ab _ _ | exact Ae _ | exact Ac _ _ | exact Ag _ | rfl | (simp; omega))) | fail) ?_ | (refine r_owns Y Y Y Y Y (by first | (apply m1 <;> (first | assumption | omega | exact Ab _ _ | exact Ae _ | exact Ac _ _ | exact Ag _ | rfl | (simp; omega))) | fail) (fun k => ?_)) | (have := kk; clear this; refine A5 Y Y Y Y Y (Owns.pure (by first | (apply m1 <;> (first | assumption | omega | exact Ab _ _ | exact Ae _ | exact Ac _ _ | exact Ag _ | rfl | (simp; omega))) | fail)) ?_) | (refine r_owns Y Y Y Y Y (by first | (apply m2 <;> (first | assumption | omega | exact Ab _ _ | exact Ae _ | exact Ac _ _ | exact Ag _ | rfl | (simp; omega))) | fail) (fun k => ?_)) | (have := kk; clear this; refine A5 Y Y Y Y Y (Owns.pure (by first | (apply m2 <;> (first | assumption | omega | exact Ab _ _ | exact Ae _ | exact Ac _ _ | exact Ag _ | rfl | (simp; omega))) | fail)) ?_) | fail)
      | refine r_q hG Y Y Y ?_))
    | (show AL _ _ _ _ _ _ _ _; first | refine al_s Y Y Y ?_ | (refine Au ?_; first | show AW _ _ _ _ _ _ | show ∃ x', _ < _ ∧ _)) | (show AW _ _ (.seq _ _) _ _ _; refine Ai ?_; intro Q1) | (show AW _ _ (.region _ _ false) _ _ _; refine Af ?_; intro O1) | (show AW _ _ (.cond _ _ _) _ _ _; first | refine As Y ?_ | refine Av Y ?_ | refine aw_if Y (fun h => ?_) (fun h => ?_)) | (show AW _ _ (.skip) _ _ _; refine Aq ?_; first | show AW _ _ _ _ _ _ | show ∃ x', _ < _ ∧ _) | (show AW _ _ (.block _ _) _ _ _; refine A4 ?_; intro Q1) | (show AW _ _ (.exit _) _ _ _; refine Bh ?_; first | show AW _ _ _ _ _ _ | show ∃ x', _ < _ ∧ _) | (show AW _ _ (.ret) _ _ _; refine Ar ?_; try dsimp only [Am, Aa, Ao, Ad]) | fail)
        exact Bv (Bm rfl Bp) (.refl _) rfl
theorem catsAll_law (_W : World) (x : T) (tx : ArgTy G 6 22 x) (y : T) (ty : ArgTy G 6 22 y) (n : Int) (wn : (Lit.int .u16 n).wf = true) : ACalls Try.prog 5 [x, y, .int .u16 n] σ0 (fun r _ => r = .bool true) := by
  obtain ⟨l, rfl, hl⟩ := argTy_cats tx rfl rfl rfl rfl rfl
  obtain ⟨m, rfl, hm⟩ := argTy_cats ty rfl rfl rfl rfl rfl
  rw [show T.int .u16 n = hT (UInt16.ofNat n.toNat) from by
    have := wf_u16 wn
    unfold hT; congr 1; simp [UInt16.toNat_ofNat']; omega]
  exact (all_pure hl hm (fun _ _ => False)).mono fun _ _ h => h.1
end Go.Proofs.Ytnmpgipfbbilbaa
