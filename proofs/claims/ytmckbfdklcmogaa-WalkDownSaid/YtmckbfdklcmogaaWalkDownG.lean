/- Part of the proof of the law WalkDown: the texts WF, WG, WI, WJ. No conditions. -/
import Derived.Test.YtmckbfdklcmogaaWalkDownF
set_option linter.unusedSimpArgs false
set_option linter.unusedVariables false
namespace Go.Proofs.Ytmckbfdklcmogaa
open Go.Ts
set_option linter.unusedSimpArgs false
set_option linter.unusedVariables false
set_option linter.unnecessarySimpa false
attribute [local irreducible] Go.Ts.AW Go.Ts.AOps Go.Ts.AL Go.Ts.AOp Go.Ts.ACalls Go.Ts.DL Go.Ts.DQ0 Go.Ts.EL
def insN (x : Nat) : List Nat → List Nat
  | [] => [x]
  | y :: l => if y < x then y :: insN x l else x :: y :: l
def isort (l : List Nat) : List Nat := l.foldl (fun a x => insN x a) []
theorem insN_perm (x : Nat) : ∀ l : List Nat, (insN x l).Perm (x :: l)
  | [] => .refl _
  | y :: l => by
    rw [insN]; split
    · exact ((insN_perm x l).cons y).trans (.swap x y l)
    · exact .refl _
theorem insN_sorted (x : Nat) : ∀ l : List Nat, l.Pairwise (fun x y => ¬ y < x) → (insN x l).Pairwise (fun x y => ¬ y < x)
  | [], _ => by simp [insN]
  | y :: l, h => by
    obtain ⟨h1, h2⟩ := List.pairwise_cons.1 h
    rw [insN]; split
    · rename_i h3
      refine List.pairwise_cons.2 ⟨fun z hz => ?_, insN_sorted x l h2⟩
      rcases List.mem_cons.1 ((insN_perm x l).mem_iff.1 hz) with rfl | hz
      · omega
      · exact h1 z hz
    · rename_i h3
      refine List.pairwise_cons.2 ⟨fun z hz => ?_, h⟩
      rcases List.mem_cons.1 hz with rfl | hz
      · exact h3
      · have := h1 z hz; omega
theorem isort_spec : ∀ (l a : List Nat), a.Pairwise (fun x y => ¬ y < x) → (l.foldl (fun a x => insN x a) a).Perm (l ++ a) ∧ (l.foldl (fun a x => insN x a) a).Pairwise (fun x y => ¬ y < x)
  | [], a, h => ⟨.refl _, h⟩
  | x :: l, a, h => by
    obtain ⟨h1, h2⟩ := isort_spec l (insN x a) (insN_sorted x a h)
    refine ⟨h1.trans (((insN_perm x a).append_left l).trans ?_), h2⟩
    rw [List.cons_append]; exact List.perm_middle
theorem srtL_isort (l : List Nat) : srtL l = isort l :=
  sorted_eq _ _ ((srtL_spec l).1.trans (by have := (isort_spec l [] .nil).1; rw [List.append_nil] at this; exact this.symm)) (srtL_spec l).2 (isort_spec l [] .nil).2
def reachI (m : List (Nat × Int)) : Nat → List Nat → List Nat → List Nat
  | 0, _, out => out
  | f + 1, lv, out => if lv = [] then out else reachI m f (isort ((m.map (·.1)).filter (belowP m lv))) (out ++ lv)
theorem reachI_eq (m : List (Nat × Int)) : ∀ (f : Nat) (lv out : List Nat), reachGo m f lv out = reachI m f lv out
  | 0, lv, out => rfl
  | f + 1, lv, out => by rw [reachGo, reachI, nextL, srtL_isort, reachI_eq m f]
theorem reachE {own : Own} {xs : List T} {l : List OB} (e : xs = l.map oT) (hl : l.length < 256) {R : List Nat} (hR : reachI (kinds l) 8 (if khas (kinds l) 1 = true then [1] else []) [] = R) : Ts.Pure Try.prog 10 [.sl 13 own xs] (.sl 1 .no (R.map mT)) := by
  refine Pure.weak (us := [.sl 13 .no (l.map oT)]) ?_ (wk1 (by rw [e]; exact .own _ _ _))
  rw [← hR, ← reachI_eq]; exact walk_Reach hl
theorem withinE {own : Own} {xs : List T} {l : List OB} {v : Nat} (e : xs = l.map oT) (hl : l.length ≤ 31) {R : List Nat} (hR : isort ((reachI (kinds l) 8 (if khas (kinds l) 1 = true then [1] else []) []).filter fun id => decide (v ∈ pathL id)) = R) : Ts.Pure Try.prog 12 [.sl 13 own xs, mT v] (.sl 1 .no (R.map mT)) := by
  refine Pure.weak (us := [.sl 13 .no (l.map oT), mT v]) ?_ (wk2 (by rw [e]; exact .own _ _ _) (.refl _))
  rw [← hR, ← reachI_eq, ← srtL_isort]; exact walk_Within hl
def ob0 (id : Nat) (k : Int) (h : id < 18446744073709551616) : OB := ⟨id, k, .int .u8 0, .nilsl, .nilsl, .nilsl, .nilsl, .int .i64 0, .int .i64 0, .int .i64 0, .nilsl, .nilsl, .nilsl, h, rfl⟩
theorem c_begun : Ts.Pure Try.prog 7 [] (.bool true) := by
  have h1 := reachE (own := .full) (l := [ob0 67 2 (by omega), ob0 1 1 (by omega), ob0 6600 2 (by omega)]) (R := [1, 67]) rfl (by simp) (by decide)
  have h2 := withinE (own := .full) (l := [ob0 67 2 (by omega), ob0 1 1 (by omega), ob0 6600 2 (by omega)]) (v := 67) (R := [67]) rfl (by simp) (by decide)
  have n1 : ([1, 67] : List Nat).length = 2 := rfl
  have n2 : ([67] : List Nat).length = 1 := rfl
  intro off
  refine Bq (N := 30) (rs := [.tmp 0]) hG Try.func7 rfl rfl rfl rfl rfl ?_
  repeat' (first
    | ((show AL _ _ _ _ _ _ _ _; refine Ah Y ?_); (first
      | (show AOp _ _ ⟨_, .move _, _, _, _, _⟩ _ _ _; refine Ar hG Y Y ?_)
      | (show AOp _ _ ⟨_, .assign _, _, _, _, _⟩ _ _ _; refine A4 hG Y Y ?_)
      | (show AOp _ _ ⟨_, .call ⟨.builtin .len, _, _⟩, _, _, _, _⟩ _ _ _; first | refine Bk hG Y Y Y Y ?_ | refine Bv hG Y Y Y Y Y ?_)
      | (show AOp _ _ ⟨_, .binOp _ _ _ _ _, _, _, _, _⟩ _ _ _; first | refine Au hG Y Y Y Y Y (by omega) ?_ | refine Av hG Y Y Y Y Y (by omega) ?_ | (refine Al hG Y Y Y Y Y (fun h => ?_) (fun h => ?_)))
      | (show AOp _ _ ⟨_, .load _ _, _, _, _, _⟩ _ _ _; first | refine Ao (α := UInt16) 0 hG Y Y Y Y (by omega) Y ?_ | refine Ao (α := UInt16) 1 hG Y Y Y Y (by omega) Y ?_ | refine Az hG Y Y Y ?_ | refine Bf 0 hG Y Y Y Y ?_)
      | (show AOp _ _ ⟨_, .indexAddr _ _ _, _, _, _, _⟩ _ _ _; first | refine A3 hG Y Y Y Y Y Y Y (by omega) ?_ | refine r_idx0 hG Y Y Y Y Y Y Y ?_ | refine A1 hG Y Y Y Y Y Y Y (by omega) ?_ | refine A0 hG Y Y Y Y Y Y Y (by omega) ?_ | refine Ba hG Y Y ?_)
      | (show AOp _ _ ⟨_, .pick _ _ _, _, _, _, _⟩ _ _ _; refine A6 hG Y Y Y ?_)
      | (show AOp _ _ ⟨_, .buildSlice _ _ _, _, _, _, _⟩ _ _ _; first | refine r_mk (sz := 13) hG Y Y Y Y Y Y Y ?_)
      | (show AOp _ _ ⟨_, .build _ _, _, _, _, _⟩ _ _ _; refine r_build hG Y Y Y Y Y ?_)
      | (show AOp _ _ ⟨_, .call ⟨.value _, _, _⟩, _, _, _, _⟩ _ _ _; first | refine Br Y Y Y Y Y (by first | (apply h1 <;> (first | assumption | omega | exact A7 _ _ | exact Bg _ | exact Bd _ _ | exact Bj _ | rfl | (simp; omega))) | fail) ?_ | refine Br Y Y Y Y Y (by first | (apply h2 <;> (first | assumption | omega | exact A7 _ _ | exact Bg _ | exact Bd _ _ | exact Bj _ | rfl | (simp; omega))) | fail) ?_ | fail)
      | refine r_q hG Y Y Y ?_))
    | (show AL _ _ _ _ _ _ _ _; first | refine Bi Y Y Y ?_ | (refine At ?_; first | show AW _ _ _ _ _ _ | show ∃ x', _ < _ ∧ _)) | (show AW _ _ (.seq _ _) _ _ _; refine Ak ?_; intro Q1) | (show AW _ _ (.region _ _ false) _ _ _; refine Ad ?_; intro O1) | (show AW _ _ (.ret) _ _ _; refine Ax ?_; try dsimp only [Aw, Ab, A2, Ag]) | fail)
  all_goals first
    | exact By (Bn rfl Bl) (.refl _) rfl
    | (exfalso; revert h; decide)
structure ApX (l : List OB) where
  i : Nat
  hi : i ≤ l.length
  hn : ((l.take i).map (·.id)).Nodup
structure ApY (l : List OB) (i : Nat) where
  k : Nat
  hk : k ≤ i
  hn : ∀ j, j < k → (l.getD j default).id ≠ (l.getD i default).id
theorem nodup_snoc {l : List OB} {i : Nat} (hi : i < l.length) (h : ((l.take i).map (·.id)).Nodup) (h2 : ∀ j, j < i → (l.getD j default).id ≠ (l.getD i default).id) : ((l.take (i + 1)).map (·.id)).Nodup := by
  rw [List.take_add_one, List.map_append]
  refine List.nodup_append.2 ⟨h, by simp [hi], fun a ha b hb => ?_⟩
  simp [hi] at hb; subst hb
  obtain ⟨o, ho, rfl⟩ := List.mem_map.1 ha
  obtain ⟨j, hj, rfl⟩ := List.mem_iff_getElem.1 ho
  rw [List.length_take] at hj
  have := h2 j (by omega)
  simpa [List.getD, hi, show j < l.length by omega] using this
set_option maxHeartbeats 1000000 in
theorem law_apart {l : List OB} (hl : l.length ≤ 4294967296) : Ts.Pure Try.prog 8 [.sl 13 .no (l.map oT)] (.bool (decide ((l.map (·.id)).Nodup))) := by
  obtain ⟨R, hR⟩ : ∃ R, decide ((l.map (·.id)).Nodup) = R := ⟨_, rfl⟩
  rw [hR]
  intro off
  refine Bq (N := 27) (rs := [.tmp 2]) hG Try.func8 rfl rfl rfl rfl rfl ?_
  repeat' (first
    | ((first | (show AL _ _ _ _ _ _ _ _; refine Ah Y ?_) | (show DL _ _ _ _ _ _ _; refine' A5 Y Y (fun K kk => ?_) ?_; try (show Go.Ts.T; rotate_left))); (first
      | (show AOp _ _ ⟨_, .move _, _, _, _, _⟩ _ _ _; refine Ar hG Y Y ?_)
      | (show AOp _ _ ⟨_, .assign _, _, _, _, _⟩ _ _ _; refine A4 hG Y Y ?_)
      | (show AOp _ _ ⟨_, .call ⟨.builtin .len, _, _⟩, _, _, _, _⟩ _ _ _; first | refine Bk hG Y Y Y Y ?_ | refine Bv hG Y Y Y Y Y ?_)
      | (show AOp _ _ ⟨_, .binOp .add _ _ _ _, _, _, _, _⟩ _ _ _; first | refine Ac hG Y Y Y Y Y (by omega) ?_ | refine Ac (m := 1) hG Y Y Y Y Y (by omega) ?_ | refine Aa hG Y Y Y Y Y (by omega) ?_)
      | (show AOp _ _ ⟨_, .binOp _ _ _ _ _, _, _, _, _⟩ _ _ _; first | refine Au hG Y Y Y Y Y (by omega) ?_ | refine Av hG Y Y Y Y Y (by omega) ?_ | ((fail_if_success have := kk); refine Al hG Y Y Y Y Y (fun h => ?_) (fun h => ?_)))
      | (show AOp _ _ ⟨_, .load _ _, _, _, _, _⟩ _ _ _; first | refine Ao (α := UInt16) 0 hG Y Y Y Y (by omega) Y ?_ | refine Ao (α := UInt16) 1 hG Y Y Y Y (by omega) Y ?_ | refine Az hG Y Y Y ?_ | refine Bf 0 hG Y Y Y Y ?_)
      | (show AOp _ _ ⟨_, .indexAddr _ _ _, _, _, _, _⟩ _ _ _; first | refine A3 hG Y Y Y Y Y Y Y (by omega) ?_ | refine A1 hG Y Y Y Y Y Y Y (by omega) ?_ | refine A0 hG Y Y Y Y Y Y Y (by omega) ?_ | refine Ba hG Y Y ?_)
      | refine r_q hG Y Y Y ?_); try exact kk)
    | (show AL _ _ _ _ _ _ _ _; first | refine Bi Y Y Y ?_ | (refine At ?_; first | show AW _ _ _ _ _ _ | show ∃ x', _ < _ ∧ _)) | (show AW _ _ (.seq _ _) _ _ _; refine Ak ?_; intro Q1) | (show AW _ _ (.region _ _ false) _ _ _; refine Ad ?_; intro O1) | (show AW _ _ (.cond _ _ _) _ _ _; first | refine Ap Y ?_ | refine Aq Y ?_ | refine Bc Y (fun h => ?_) (fun h => ?_)) | (show AW _ _ (.skip) _ _ _; refine Aj ?_; first | show AW _ _ _ _ _ _ | show ∃ x', _ < _ ∧ _) | (show AW _ _ (.block _ _) _ _ _; refine Af ?_; intro Q1) | (show AW _ _ (.exit _) _ _ _; refine Am ?_; first | show AW _ _ _ _ _ _ | show ∃ x', _ < _ ∧ _) | (show AW _ _ (.ret) _ _ _; refine Ax ?_; try dsimp only [Aw, Ab, A2, Ag])
    | (show DL _ _ _ _ _ _ _; refine Bx Y Y (fun K kt kf => Al hG Y Y Y Y Y kt kf) (fun h => ?_) (fun h => ?_))
    | (show DL _ _ _ _ _ _ _; refine Bw Y Y Y ?_) | (show DL _ _ _ _ _ _ _; refine Be ?_; first | show AW _ _ _ _ _ _ | show ∃ x', _ < _ ∧ _) | (show AW _ _ (.region _ _ true) _ _ _; refine Ay mix (by kernel_rfl) ?_; intro O1) | fail)
  refine aw_loop (X := ApX l) (fun x => [(0, .sl 13 .no (l.map oT)), (3, .int .i64 (x.i : Int))]) (fun x => ⟨[], [], off, none⟩) (fun x => l.length - x.i) ⟨0, Nat.zero_le _, by simp⟩ (by repeat (first | exact .nil _ | refine .cons rfl ?_)) (.refl _) ?_
  rintro ⟨i, hi, hn⟩
  dsimp only
  by_cases hil : i < l.length
  · repeat' (first
    | ((first | (show AL _ _ _ _ _ _ _ _; refine Ah Y ?_) | (show DL _ _ _ _ _ _ _; refine' A5 Y Y (fun K kk => ?_) ?_; try (show Go.Ts.T; rotate_left))); (first
      | (show AOp _ _ ⟨_, .move _, _, _, _, _⟩ _ _ _; refine Ar hG Y Y ?_)
      | (show AOp _ _ ⟨_, .assign _, _, _, _, _⟩ _ _ _; refine A4 hG Y Y ?_)
      | (show AOp _ _ ⟨_, .call ⟨.builtin .len, _, _⟩, _, _, _, _⟩ _ _ _; first | refine Bk hG Y Y Y Y ?_ | refine Bv hG Y Y Y Y Y ?_)
      | (show AOp _ _ ⟨_, .binOp .add _ _ _ _, _, _, _, _⟩ _ _ _; first | refine Ac hG Y Y Y Y Y (by omega) ?_ | refine Ac (m := 1) hG Y Y Y Y Y (by omega) ?_ | refine Aa hG Y Y Y Y Y (by omega) ?_)
      | (show AOp _ _ ⟨_, .binOp _ _ _ _ _, _, _, _, _⟩ _ _ _; first | refine Au hG Y Y Y Y Y (by omega) ?_ | refine Av hG Y Y Y Y Y (by omega) ?_ | ((fail_if_success have := kk); refine Al hG Y Y Y Y Y (fun h => ?_) (fun h => ?_)))
      | (show AOp _ _ ⟨_, .load _ _, _, _, _, _⟩ _ _ _; first | refine Ao (α := UInt16) 0 hG Y Y Y Y (by omega) Y ?_ | refine Ao (α := UInt16) 1 hG Y Y Y Y (by omega) Y ?_ | refine Az hG Y Y Y ?_ | refine Bf 0 hG Y Y Y Y ?_)
      | (show AOp _ _ ⟨_, .indexAddr _ _ _, _, _, _, _⟩ _ _ _; first | refine A3 hG Y Y Y Y Y Y Y (by omega) ?_ | refine A1 hG Y Y Y Y Y Y Y (by omega) ?_ | refine A0 hG Y Y Y Y Y Y Y (by omega) ?_ | refine Ba hG Y Y ?_)
      | refine r_q hG Y Y Y ?_); try exact kk)
    | (show AL _ _ _ _ _ _ _ _; first | refine Bi Y Y Y ?_ | (refine At ?_; first | show AW _ _ _ _ _ _ | show ∃ x', _ < _ ∧ _)) | (show AW _ _ (.seq _ _) _ _ _; refine Ak ?_; intro Q1) | (show AW _ _ (.region _ _ false) _ _ _; refine Ad ?_; intro O1) | (show AW _ _ (.cond _ _ _) _ _ _; first | refine Ap Y ?_ | refine Aq Y ?_ | refine Bc Y (fun h => ?_) (fun h => ?_)) | (show AW _ _ (.skip) _ _ _; refine Aj ?_; first | show AW _ _ _ _ _ _ | show ∃ x', _ < _ ∧ _) | (show AW _ _ (.block _ _) _ _ _; refine Af ?_; intro Q1) | (show AW _ _ (.exit _) _ _ _; refine Am ?_; first | show AW _ _ _ _ _ _ | show ∃ x', _ < _ ∧ _) | (show AW _ _ (.ret) _ _ _; refine Ax ?_; try dsimp only [Aw, Ab, A2, Ag])
    | (show DL _ _ _ _ _ _ _; refine Bx Y Y (fun K kt kf => Al hG Y Y Y Y Y kt kf) (fun h => ?_) (fun h => ?_))
    | (show DL _ _ _ _ _ _ _; refine Bw Y Y Y ?_) | (show DL _ _ _ _ _ _ _; refine Be ?_; first | show AW _ _ _ _ _ _ | show ∃ x', _ < _ ∧ _) | (show AW _ _ (.region _ _ true) _ _ _; refine Ay mix (by kernel_rfl) ?_; intro O1) | fail)
    refine aw_loop (X := ApY l i) (fun x => [(0, .sl 13 .no (l.map oT)), (3, .int .i64 (i : Int)), (4, .int .i64 (x.k : Int))]) (fun x => ⟨[], [], off, none⟩) (fun x => i - x.k) ⟨0, Nat.zero_le _, fun j hj => by omega⟩ (by repeat (first | exact .nil _ | refine .cons rfl ?_)) (.refl _) ?_
    rintro ⟨k, hk, hd⟩
    dsimp only
    by_cases hki : k < i
    · by_cases he : (((l.getD i default).id : Nat) : Int) = (((l.getD k default).id : Nat) : Int)
      · repeat' (first
    | ((first | (show AL _ _ _ _ _ _ _ _; refine Ah Y ?_) | (show DL _ _ _ _ _ _ _; refine' A5 Y Y (fun K kk => ?_) ?_; try (show Go.Ts.T; rotate_left))); (first
      | (show AOp _ _ ⟨_, .move _, _, _, _, _⟩ _ _ _; refine Ar hG Y Y ?_)
      | (show AOp _ _ ⟨_, .assign _, _, _, _, _⟩ _ _ _; refine A4 hG Y Y ?_)
      | (show AOp _ _ ⟨_, .call ⟨.builtin .len, _, _⟩, _, _, _, _⟩ _ _ _; first | refine Bk hG Y Y Y Y ?_ | refine Bv hG Y Y Y Y Y ?_)
      | (show AOp _ _ ⟨_, .binOp .add _ _ _ _, _, _, _, _⟩ _ _ _; first | refine Ac hG Y Y Y Y Y (by omega) ?_ | refine Ac (m := 1) hG Y Y Y Y Y (by omega) ?_ | refine Aa hG Y Y Y Y Y (by omega) ?_)
      | (show AOp _ _ ⟨_, .binOp _ _ _ _ _, _, _, _, _⟩ _ _ _; first | refine Au hG Y Y Y Y Y (by omega) ?_ | refine Av hG Y Y Y Y Y (by omega) ?_ | ((fail_if_success have := kk); refine Al hG Y Y Y Y Y (fun h => ?_) (fun h => ?_)))
      | (show AOp _ _ ⟨_, .load _ _, _, _, _, _⟩ _ _ _; first | refine Ao (α := UInt16) 0 hG Y Y Y Y (by omega) Y ?_ | refine Ao (α := UInt16) 1 hG Y Y Y Y (by omega) Y ?_ | refine Az hG Y Y Y ?_ | refine Bf 0 hG Y Y Y Y ?_)
      | (show AOp _ _ ⟨_, .indexAddr _ _ _, _, _, _, _⟩ _ _ _; first | refine A3 hG Y Y Y Y Y Y Y (by omega) ?_ | refine A1 hG Y Y Y Y Y Y Y (by omega) ?_ | refine A0 hG Y Y Y Y Y Y Y (by omega) ?_ | refine Ba hG Y Y ?_)
      | refine r_q hG Y Y Y ?_); try exact kk)
    | (show AL _ _ _ _ _ _ _ _; first | refine Bi Y Y Y ?_ | (refine At ?_; first | show AW _ _ _ _ _ _ | show ∃ x', _ < _ ∧ _)) | (show AW _ _ (.seq _ _) _ _ _; refine Ak ?_; intro Q1) | (show AW _ _ (.region _ _ false) _ _ _; refine Ad ?_; intro O1) | (show AW _ _ (.cond _ _ _) _ _ _; first | refine Ap Y ?_ | refine Aq Y ?_ | refine Bc Y (fun h => ?_) (fun h => ?_)) | (show AW _ _ (.skip) _ _ _; refine Aj ?_; first | show AW _ _ _ _ _ _ | show ∃ x', _ < _ ∧ _) | (show AW _ _ (.block _ _) _ _ _; refine Af ?_; intro Q1) | (show AW _ _ (.exit _) _ _ _; refine Am ?_; first | show AW _ _ _ _ _ _ | show ∃ x', _ < _ ∧ _) | (show AW _ _ (.ret) _ _ _; refine Ax ?_; try dsimp only [Aw, Ab, A2, Ag])
    | (show DL _ _ _ _ _ _ _; refine Bx Y Y (fun K kt kf => Al hG Y Y Y Y Y kt kf) (fun h => ?_) (fun h => ?_))
    | (show DL _ _ _ _ _ _ _; refine Bw Y Y Y ?_) | (show DL _ _ _ _ _ _ _; refine Be ?_; first | show AW _ _ _ _ _ _ | show ∃ x', _ < _ ∧ _) | (show AW _ _ (.region _ _ true) _ _ _; refine Ay mix (by kernel_rfl) ?_; intro O1) | fail)
        try dsimp (config := { zetaDelta := true }) only [Aw, Ab, A2]
        refine By (Bn rfl Bl) (.eq ?_) rfl
        rw [← hR, decide_eq_false]
        · rfl
        · intro hnd
          have h3 := List.pairwise_iff_getElem.1 hnd k i (by rw [List.length_map]; omega) (by rw [List.length_map]; exact hil) hki
          simp [List.getD, hil, show k < l.length by omega] at he h3
          exact h3 (by omega)
      · repeat' (first
    | ((first | (show AL _ _ _ _ _ _ _ _; refine Ah Y ?_) | (show DL _ _ _ _ _ _ _; refine' A5 Y Y (fun K kk => ?_) ?_; try (show Go.Ts.T; rotate_left))); (first
      | (show AOp _ _ ⟨_, .move _, _, _, _, _⟩ _ _ _; refine Ar hG Y Y ?_)
      | (show AOp _ _ ⟨_, .assign _, _, _, _, _⟩ _ _ _; refine A4 hG Y Y ?_)
      | (show AOp _ _ ⟨_, .call ⟨.builtin .len, _, _⟩, _, _, _, _⟩ _ _ _; first | refine Bk hG Y Y Y Y ?_ | refine Bv hG Y Y Y Y Y ?_)
      | (show AOp _ _ ⟨_, .binOp .add _ _ _ _, _, _, _, _⟩ _ _ _; first | refine Ac hG Y Y Y Y Y (by omega) ?_ | refine Ac (m := 1) hG Y Y Y Y Y (by omega) ?_ | refine Aa hG Y Y Y Y Y (by omega) ?_)
      | (show AOp _ _ ⟨_, .binOp _ _ _ _ _, _, _, _, _⟩ _ _ _; first | refine Au hG Y Y Y Y Y (by omega) ?_ | refine Av hG Y Y Y Y Y (by omega) ?_ | ((fail_if_success have := kk); refine Al hG Y Y Y Y Y (fun h => ?_) (fun h => ?_)))
      | (show AOp _ _ ⟨_, .load _ _, _, _, _, _⟩ _ _ _; first | refine Ao (α := UInt16) 0 hG Y Y Y Y (by omega) Y ?_ | refine Ao (α := UInt16) 1 hG Y Y Y Y (by omega) Y ?_ | refine Az hG Y Y Y ?_ | refine Bf 0 hG Y Y Y Y ?_)
      | (show AOp _ _ ⟨_, .indexAddr _ _ _, _, _, _, _⟩ _ _ _; first | refine A3 hG Y Y Y Y Y Y Y (by omega) ?_ | refine A1 hG Y Y Y Y Y Y Y (by omega) ?_ | refine A0 hG Y Y Y Y Y Y Y (by omega) ?_ | refine Ba hG Y Y ?_)
      | refine r_q hG Y Y Y ?_); try exact kk)
    | (show AL _ _ _ _ _ _ _ _; first | refine Bi Y Y Y ?_ | (refine At ?_; first | show AW _ _ _ _ _ _ | show ∃ x', _ < _ ∧ _)) | (show AW _ _ (.seq _ _) _ _ _; refine Ak ?_; intro Q1) | (show AW _ _ (.region _ _ false) _ _ _; refine Ad ?_; intro O1) | (show AW _ _ (.cond _ _ _) _ _ _; first | refine Ap Y ?_ | refine Aq Y ?_ | refine Bc Y (fun h => ?_) (fun h => ?_)) | (show AW _ _ (.skip) _ _ _; refine Aj ?_; first | show AW _ _ _ _ _ _ | show ∃ x', _ < _ ∧ _) | (show AW _ _ (.block _ _) _ _ _; refine Af ?_; intro Q1) | (show AW _ _ (.exit _) _ _ _; refine Am ?_; first | show AW _ _ _ _ _ _ | show ∃ x', _ < _ ∧ _) | (show AW _ _ (.ret) _ _ _; refine Ax ?_; try dsimp only [Aw, Ab, A2, Ag])
    | (show DL _ _ _ _ _ _ _; refine Bx Y Y (fun K kt kf => Al hG Y Y Y Y Y kt kf) (fun h => ?_) (fun h => ?_))
    | (show DL _ _ _ _ _ _ _; refine Bw Y Y Y ?_) | (show DL _ _ _ _ _ _ _; refine Be ?_; first | show AW _ _ _ _ _ _ | show ∃ x', _ < _ ∧ _) | (show AW _ _ (.region _ _ true) _ _ _; refine Ay mix (by kernel_rfl) ?_; intro O1) | fail)
        exact ⟨⟨k + 1, by omega, fun j hj => (by
          by_cases h3 : j < k
          · exact hd j h3
          · obtain rfl : j = k := by omega
            omega)⟩, by dsimp only; omega, (by repeat (first | exact .nil _ | refine .cons rfl ?_)), .refl _⟩
    · repeat' (first
    | ((first | (show AL _ _ _ _ _ _ _ _; refine Ah Y ?_) | (show DL _ _ _ _ _ _ _; refine' A5 Y Y (fun K kk => ?_) ?_; try (show Go.Ts.T; rotate_left))); (first
      | (show AOp _ _ ⟨_, .move _, _, _, _, _⟩ _ _ _; refine Ar hG Y Y ?_)
      | (show AOp _ _ ⟨_, .assign _, _, _, _, _⟩ _ _ _; refine A4 hG Y Y ?_)
      | (show AOp _ _ ⟨_, .call ⟨.builtin .len, _, _⟩, _, _, _, _⟩ _ _ _; first | refine Bk hG Y Y Y Y ?_ | refine Bv hG Y Y Y Y Y ?_)
      | (show AOp _ _ ⟨_, .binOp .add _ _ _ _, _, _, _, _⟩ _ _ _; first | refine Ac hG Y Y Y Y Y (by omega) ?_ | refine Ac (m := 1) hG Y Y Y Y Y (by omega) ?_ | refine Aa hG Y Y Y Y Y (by omega) ?_)
      | (show AOp _ _ ⟨_, .binOp _ _ _ _ _, _, _, _, _⟩ _ _ _; first | refine Au hG Y Y Y Y Y (by omega) ?_ | refine Av hG Y Y Y Y Y (by omega) ?_ | ((fail_if_success have := kk); refine Al hG Y Y Y Y Y (fun h => ?_) (fun h => ?_)))
      | (show AOp _ _ ⟨_, .load _ _, _, _, _, _⟩ _ _ _; first | refine Ao (α := UInt16) 0 hG Y Y Y Y (by omega) Y ?_ | refine Ao (α := UInt16) 1 hG Y Y Y Y (by omega) Y ?_ | refine Az hG Y Y Y ?_ | refine Bf 0 hG Y Y Y Y ?_)
      | (show AOp _ _ ⟨_, .indexAddr _ _ _, _, _, _, _⟩ _ _ _; first | refine A3 hG Y Y Y Y Y Y Y (by omega) ?_ | refine A1 hG Y Y Y Y Y Y Y (by omega) ?_ | refine A0 hG Y Y Y Y Y Y Y (by omega) ?_ | refine Ba hG Y Y ?_)
      | refine r_q hG Y Y Y ?_); try exact kk)
    | (show AL _ _ _ _ _ _ _ _; first | refine Bi Y Y Y ?_ | (refine At ?_; first | show AW _ _ _ _ _ _ | show ∃ x', _ < _ ∧ _)) | (show AW _ _ (.seq _ _) _ _ _; refine Ak ?_; intro Q1) | (show AW _ _ (.region _ _ false) _ _ _; refine Ad ?_; intro O1) | (show AW _ _ (.cond _ _ _) _ _ _; first | refine Ap Y ?_ | refine Aq Y ?_ | refine Bc Y (fun h => ?_) (fun h => ?_)) | (show AW _ _ (.skip) _ _ _; refine Aj ?_; first | show AW _ _ _ _ _ _ | show ∃ x', _ < _ ∧ _) | (show AW _ _ (.block _ _) _ _ _; refine Af ?_; intro Q1) | (show AW _ _ (.exit _) _ _ _; refine Am ?_; first | show AW _ _ _ _ _ _ | show ∃ x', _ < _ ∧ _) | (show AW _ _ (.ret) _ _ _; refine Ax ?_; try dsimp only [Aw, Ab, A2, Ag])
    | (show DL _ _ _ _ _ _ _; refine Bx Y Y (fun K kt kf => Al hG Y Y Y Y Y kt kf) (fun h => ?_) (fun h => ?_))
    | (show DL _ _ _ _ _ _ _; refine Bw Y Y Y ?_) | (show DL _ _ _ _ _ _ _; refine Be ?_; first | show AW _ _ _ _ _ _ | show ∃ x', _ < _ ∧ _) | (show AW _ _ (.region _ _ true) _ _ _; refine Ay mix (by kernel_rfl) ?_; intro O1) | fail)
      exact ⟨⟨i + 1, by omega, nodup_snoc hil hn fun j hj => hd j (by omega)⟩, by dsimp only; omega, (by repeat (first | exact .nil _ | refine .cons rfl ?_)), .refl _⟩
  · repeat' (first
    | ((first | (show AL _ _ _ _ _ _ _ _; refine Ah Y ?_) | (show DL _ _ _ _ _ _ _; refine' A5 Y Y (fun K kk => ?_) ?_; try (show Go.Ts.T; rotate_left))); (first
      | (show AOp _ _ ⟨_, .move _, _, _, _, _⟩ _ _ _; refine Ar hG Y Y ?_)
      | (show AOp _ _ ⟨_, .assign _, _, _, _, _⟩ _ _ _; refine A4 hG Y Y ?_)
      | (show AOp _ _ ⟨_, .call ⟨.builtin .len, _, _⟩, _, _, _, _⟩ _ _ _; first | refine Bk hG Y Y Y Y ?_ | refine Bv hG Y Y Y Y Y ?_)
      | (show AOp _ _ ⟨_, .binOp .add _ _ _ _, _, _, _, _⟩ _ _ _; first | refine Ac hG Y Y Y Y Y (by omega) ?_ | refine Ac (m := 1) hG Y Y Y Y Y (by omega) ?_ | refine Aa hG Y Y Y Y Y (by omega) ?_)
      | (show AOp _ _ ⟨_, .binOp _ _ _ _ _, _, _, _, _⟩ _ _ _; first | refine Au hG Y Y Y Y Y (by omega) ?_ | refine Av hG Y Y Y Y Y (by omega) ?_ | ((fail_if_success have := kk); refine Al hG Y Y Y Y Y (fun h => ?_) (fun h => ?_)))
      | (show AOp _ _ ⟨_, .load _ _, _, _, _, _⟩ _ _ _; first | refine Ao (α := UInt16) 0 hG Y Y Y Y (by omega) Y ?_ | refine Ao (α := UInt16) 1 hG Y Y Y Y (by omega) Y ?_ | refine Az hG Y Y Y ?_ | refine Bf 0 hG Y Y Y Y ?_)
      | (show AOp _ _ ⟨_, .indexAddr _ _ _, _, _, _, _⟩ _ _ _; first | refine A3 hG Y Y Y Y Y Y Y (by omega) ?_ | refine A1 hG Y Y Y Y Y Y Y (by omega) ?_ | refine A0 hG Y Y Y Y Y Y Y (by omega) ?_ | refine Ba hG Y Y ?_)
      | refine r_q hG Y Y Y ?_); try exact kk)
    | (show AL _ _ _ _ _ _ _ _; first | refine Bi Y Y Y ?_ | (refine At ?_; first | show AW _ _ _ _ _ _ | show ∃ x', _ < _ ∧ _)) | (show AW _ _ (.seq _ _) _ _ _; refine Ak ?_; intro Q1) | (show AW _ _ (.region _ _ false) _ _ _; refine Ad ?_; intro O1) | (show AW _ _ (.cond _ _ _) _ _ _; first | refine Ap Y ?_ | refine Aq Y ?_ | refine Bc Y (fun h => ?_) (fun h => ?_)) | (show AW _ _ (.skip) _ _ _; refine Aj ?_; first | show AW _ _ _ _ _ _ | show ∃ x', _ < _ ∧ _) | (show AW _ _ (.block _ _) _ _ _; refine Af ?_; intro Q1) | (show AW _ _ (.exit _) _ _ _; refine Am ?_; first | show AW _ _ _ _ _ _ | show ∃ x', _ < _ ∧ _) | (show AW _ _ (.ret) _ _ _; refine Ax ?_; try dsimp only [Aw, Ab, A2, Ag])
    | (show DL _ _ _ _ _ _ _; refine Bx Y Y (fun K kt kf => Al hG Y Y Y Y Y kt kf) (fun h => ?_) (fun h => ?_))
    | (show DL _ _ _ _ _ _ _; refine Bw Y Y Y ?_) | (show DL _ _ _ _ _ _ _; refine Be ?_; first | show AW _ _ _ _ _ _ | show ∃ x', _ < _ ∧ _) | (show AW _ _ (.region _ _ true) _ _ _; refine Ay mix (by kernel_rfl) ?_; intro O1) | fail)
    refine By (Bn rfl Bl) (.eq ?_) rfl
    rw [← hR, decide_eq_true (by rwa [List.take_of_length_le (by omega)] at hn)]; rfl
def pthGo : Nat → Nat → List Nat → List Nat
  | 0, id, l => if id = 1 ∧ l.length ≤ 6 then 1 :: l else []
  | f + 1, id, l => if 1 < id then (if id % 64 = 0 then [] else pthGo f (id / 64) (id :: l)) else if id = 1 ∧ l.length ≤ 6 then 1 :: l else []
theorem nm_drop : ∀ {k j i : Nat} {l : List Nat}, nm j i = some l → l.length ≤ k → nm k i = some l
  | k, 0, i, l, h, _ => by
    rw [nm] at h; split at h
    · rename_i h1; subst h1; rw [nm_one]; exact h
    · cases h
  | 0, j + 1, i, l, h, hl => by
    rw [nm] at h; split at h
    · rename_i h1; subst h1; rw [nm_one]; exact h
    · split at h
      · cases h2 : nm j (i / 64) with
        | none => rw [h2] at h; cases h
        | some l' => rw [h2] at h; simp at h; subst h; simp at hl
      · cases h
  | k + 1, j + 1, i, l, h, hl => by
    rw [nm] at h; split at h
    · rename_i h1; subst h1; rw [nm_one]; exact h
    · rename_i h1
      split at h
      · rename_i h2
        rw [nm, if_neg h1, if_pos h2]
        cases h3 : nm j (i / 64) with
        | none => rw [h3] at h; cases h
        | some l' =>
          rw [h3] at h; simp at h; subst h
          rw [nm_drop h3 (by simpa using hl)]; rfl
      · cases h
theorem pthGo_nm : ∀ (f id : Nat) (l : List Nat), pthGo f id l = match nm f id with
    | some ns => if l.length + ns.length ≤ 6 then pathF ns ++ l else []
    | none => []
  | 0, id, l => by
    rw [pthGo, nm]
    by_cases h : id = 1
    · rw [if_pos h]; simp [h, pathF]
    · rw [if_neg h, if_neg (by simp [h])]
  | f + 1, id, l => by
    rw [pthGo, nm]
    by_cases h1 : id = 1
    · subst h1; rw [if_neg (by omega), if_pos rfl]; simp [pathF]
    · rw [if_neg h1]
      by_cases h2 : 1 < id
      · rw [if_pos h2]
        by_cases h3 : id % 64 = 0
        · rw [if_pos h3, if_neg (by omega)]
        · rw [if_neg h3, if_pos ⟨h2, by omega⟩, pthGo_nm f]
          cases h4 : nm f (id / 64) with
          | none => rfl
          | some ns =>
            have h5 := (nm_path f _ _ h4).1
            simp only [Option.map_some, List.length_cons, pathF, h5]
            rw [show id / 64 * 64 + id % 64 = id by omega, List.append_assoc, List.singleton_append]
            by_cases h6 : l.length + (ns.length + 1) ≤ 6
            · rw [if_pos h6, if_pos (by omega)]
            · rw [if_neg h6, if_neg (by omega)]
      · rw [if_neg h2, if_neg (by omega), if_neg (by omega)]
theorem pthGo_path (id : Nat) : pthGo 20 id [] = pathL id := by
  rw [pthGo_nm, pathL]
  cases h : nm 6 id with
  | some ns =>
    have h2 := (nm_path 6 id ns h).2.1
    rw [nm_drop h (show ns.length ≤ 20 by omega)]
    simp; omega
  | none =>
    cases h2 : nm 20 id with
    | none => rfl
    | some ns =>
      dsimp only
      rw [if_neg]; rfl
      intro h3
      rw [nm_drop h2 (show ns.length ≤ 6 by simpa using h3)] at h; cases h
theorem u64_div {id : Nat} (h : id < 18446744073709551616) : IntKind.u64.wrap (((id : Nat) : Int).tdiv 64) = ((id / 64 : Nat) : Int) := by
  rw [show ((id : Nat) : Int).tdiv 64 = ((id / 64 : Nat) : Int) by rw [show (64 : Int) = ((64 : Nat) : Int) from rfl]; simp]
  exact u64_in (by omega) (by omega)
structure PthX (R : List Nat) where
  n : Nat
  id : Nat
  l : List Nat
  hn : n ≤ 20
  hid : id < 18446744073709551616
  hl : l.length = n
  e : pthGo (20 - n) id l = R
set_option maxHeartbeats 1000000 in
theorem ref_Path {id : Nat} (hid : id < 18446744073709551616) : Ts.Pure Try.prog 26 [mT id] (.sl 1 .no ((pathL id).map mT)) := by
  rw [← pthGo_path]
  obtain ⟨R, hR⟩ : ∃ R, pthGo 20 id [] = R := ⟨_, rfl⟩
  rw [hR]
  intro off
  refine Bq (N := 32) (rs := [.tmp 2]) hG Try.func26 rfl rfl rfl rfl rfl ?_
  repeat' (first
    | ((show AL _ _ _ _ _ _ _ _; refine Ah Y ?_); (first
      | (show AOp _ _ ⟨_, .move _, _, _, _, _⟩ _ _ _; refine Ar hG Y Y ?_)
      | (show AOp _ _ ⟨_, .assign _, _, _, _, _⟩ _ _ _; refine A4 hG Y Y ?_)
      | (show AOp _ _ ⟨_, .call ⟨.builtin .len, _, _⟩, _, _, _, _⟩ _ _ _; first | refine Bk hG Y Y Y Y ?_ | refine Bv hG Y Y Y Y Y ?_)
      | (show AOp _ _ ⟨_, .binOp .add _ _ _ _, _, _, _, _⟩ _ _ _; first | refine Ac hG Y Y Y Y Y (by omega) ?_ | refine Ac (m := 1) hG Y Y Y Y Y (by omega) ?_ | refine Aa hG Y Y Y Y Y (by omega) ?_)
      | (show AOp _ _ ⟨_, .binOp .quo _ _ _ _, _, _, _, _⟩ _ _ _; first | refine Bb (m := 2) hG Y Y Y Y (by omega) ?_ | refine Bb (m := 4) hG Y Y Y Y (by omega) ?_ | refine Bb (m := 8) hG Y Y Y Y (by omega) ?_)
      | (show AOp _ _ ⟨_, .binOp .rem _ _ _ _, _, _, _, _⟩ _ _ _; first | refine r_rem hG Y Y Y Y (by omega) ?_ | refine r_trem hG Y Y Y Y (by omega) ?_)
      | (show AOp _ _ ⟨_, .binOp _ _ _ _ _, _, _, _, _⟩ _ _ _; first | refine Au hG Y Y Y Y Y (by omega) ?_ | refine Av hG Y Y Y Y Y (by omega) ?_ | (refine Al hG Y Y Y Y Y (fun h => ?_) (fun h => ?_)) | refine Bu hG Y Y Y ?_)
      | (show AOp _ _ ⟨_, .pick _ _ _, _, _, _, _⟩ _ _ _; refine A6 hG Y Y Y ?_)
      | (show AOp _ _ ⟨_, .buildSlice _ _ _, _, _, _, _⟩ _ _ _; first | refine r_mk (sz := 1) hG Y Y Y Y Y Y Y ?_)
      | (show AOp _ _ ⟨_, .call ⟨.builtin .append, _, _⟩, _, _, _, _⟩ _ _ _; first | refine Bm (sz := 1) (xs := []) hG Y Y Y Y Y Y Y ⟨_, Y⟩ Y Y Y Y Y Y Y (by first | omega | (simp; omega)) (fun k => ?_) | refine Bt 0 hG Y Y Y Y Y Y Y ⟨_, Y⟩ Y Y Y Y Y (by first | omega | (simp only [List.length_append, List.length_cons, List.length_nil]; omega)) (fun k => ?_) | fail)
      | refine r_q hG Y Y Y ?_))
    | (show AL _ _ _ _ _ _ _ _; first | refine Bi Y Y Y ?_ | (refine At ?_; first | show AW _ _ _ _ _ _ | show ∃ x', _ < _ ∧ _)) | (show AW _ _ (.seq _ _) _ _ _; refine Ak ?_; intro Q1) | (show AW _ _ (.region _ _ false) _ _ _; refine Ad ?_; intro O1) | (show AW _ _ (.cond _ _ _) _ _ _; first | refine Ap Y ?_ | refine Aq Y ?_ | refine Bc Y (fun h => ?_) (fun h => ?_)) | (show AW _ _ (.skip) _ _ _; refine Aj ?_; first | show AW _ _ _ _ _ _ | show ∃ x', _ < _ ∧ _) | (show AW _ _ (.block _ _) _ _ _; refine Af ?_; intro Q1) | (show AW _ _ (.exit _) _ _ _; refine Am ?_; first | show AW _ _ _ _ _ _ | show ∃ x', _ < _ ∧ _) | (show AW _ _ (.ret) _ _ _; refine Ax ?_; try dsimp only [Aw, Ab, A2, Ag]) | fail)
  refine aw_loop (X := PthX R) (fun x => [(0, mT x.id), (3, .sl 1 .no (x.l.map mT)), (4, .int .i64 (x.n : Int))]) (fun x => ⟨[], [], off, none⟩) (fun x => 20 - x.n) ⟨0, id, [], by omega, hid, rfl, hR⟩ (.cons rfl (.consW rfl (.nil 1) (.cons rfl (.nil _)))) (.refl _) ?_
  clear hR hid id
  rintro ⟨n, id, l, hn, hid, hl, e⟩
  dsimp only at e ⊢
  by_cases hn2 : n < 20
  · rw [show 20 - n = (20 - (n + 1)) + 1 by omega, pthGo] at e
    by_cases h1 : 1 < id
    · rw [if_pos h1] at e
      by_cases h2 : id % 64 = 0
      · rw [if_pos h2] at e
        subst e
        repeat' (first
    | ((show AL _ _ _ _ _ _ _ _; refine Ah Y ?_); (first
      | (show AOp _ _ ⟨_, .move _, _, _, _, _⟩ _ _ _; refine Ar hG Y Y ?_)
      | (show AOp _ _ ⟨_, .assign _, _, _, _, _⟩ _ _ _; refine A4 hG Y Y ?_)
      | (show AOp _ _ ⟨_, .call ⟨.builtin .len, _, _⟩, _, _, _, _⟩ _ _ _; first | refine Bk hG Y Y Y Y ?_ | refine Bv hG Y Y Y Y Y ?_)
      | (show AOp _ _ ⟨_, .binOp .add _ _ _ _, _, _, _, _⟩ _ _ _; first | refine Ac hG Y Y Y Y Y (by omega) ?_ | refine Ac (m := 1) hG Y Y Y Y Y (by omega) ?_ | refine Aa hG Y Y Y Y Y (by omega) ?_)
      | (show AOp _ _ ⟨_, .binOp .quo _ _ _ _, _, _, _, _⟩ _ _ _; first | refine Bb (m := 2) hG Y Y Y Y (by omega) ?_ | refine Bb (m := 4) hG Y Y Y Y (by omega) ?_ | refine Bb (m := 8) hG Y Y Y Y (by omega) ?_)
      | (show AOp _ _ ⟨_, .binOp .rem _ _ _ _, _, _, _, _⟩ _ _ _; first | refine r_rem hG Y Y Y Y (by omega) ?_ | refine r_trem hG Y Y Y Y (by omega) ?_)
      | (show AOp _ _ ⟨_, .binOp _ _ _ _ _, _, _, _, _⟩ _ _ _; first | refine Au hG Y Y Y Y Y (by omega) ?_ | refine Av hG Y Y Y Y Y (by omega) ?_ | (refine Al hG Y Y Y Y Y (fun h => ?_) (fun h => ?_)) | refine Bu hG Y Y Y ?_)
      | (show AOp _ _ ⟨_, .pick _ _ _, _, _, _, _⟩ _ _ _; refine A6 hG Y Y Y ?_)
      | (show AOp _ _ ⟨_, .buildSlice _ _ _, _, _, _, _⟩ _ _ _; first | refine r_mk (sz := 1) hG Y Y Y Y Y Y Y ?_)
      | (show AOp _ _ ⟨_, .call ⟨.builtin .append, _, _⟩, _, _, _, _⟩ _ _ _; first | refine Bm (sz := 1) (xs := []) hG Y Y Y Y Y Y Y ⟨_, Y⟩ Y Y Y Y Y Y Y (by first | omega | (simp; omega)) (fun k => ?_) | refine Bt 0 hG Y Y Y Y Y Y Y ⟨_, Y⟩ Y Y Y Y Y (by first | omega | (simp only [List.length_append, List.length_cons, List.length_nil]; omega)) (fun k => ?_) | fail)
      | refine r_q hG Y Y Y ?_))
    | (show AL _ _ _ _ _ _ _ _; first | refine Bi Y Y Y ?_ | (refine At ?_; first | show AW _ _ _ _ _ _ | show ∃ x', _ < _ ∧ _)) | (show AW _ _ (.seq _ _) _ _ _; refine Ak ?_; intro Q1) | (show AW _ _ (.region _ _ false) _ _ _; refine Ad ?_; intro O1) | (show AW _ _ (.cond _ _ _) _ _ _; first | refine Ap Y ?_ | refine Aq Y ?_ | refine Bc Y (fun h => ?_) (fun h => ?_)) | (show AW _ _ (.skip) _ _ _; refine Aj ?_; first | show AW _ _ _ _ _ _ | show ∃ x', _ < _ ∧ _) | (show AW _ _ (.block _ _) _ _ _; refine Af ?_; intro Q1) | (show AW _ _ (.exit _) _ _ _; refine Am ?_; first | show AW _ _ _ _ _ _ | show ∃ x', _ < _ ∧ _) | (show AW _ _ (.ret) _ _ _; refine Ax ?_; try dsimp only [Aw, Ab, A2, Ag]) | fail)
        try dsimp (config := { zetaDelta := true }) only [Aw, Ab, A2]
        exact By (Bn rfl Bl) (.nil 1) rfl
      · rw [if_neg h2] at e
        repeat' (first
    | ((show AL _ _ _ _ _ _ _ _; refine Ah Y ?_); (first
      | (show AOp _ _ ⟨_, .move _, _, _, _, _⟩ _ _ _; refine Ar hG Y Y ?_)
      | (show AOp _ _ ⟨_, .assign _, _, _, _, _⟩ _ _ _; refine A4 hG Y Y ?_)
      | (show AOp _ _ ⟨_, .call ⟨.builtin .len, _, _⟩, _, _, _, _⟩ _ _ _; first | refine Bk hG Y Y Y Y ?_ | refine Bv hG Y Y Y Y Y ?_)
      | (show AOp _ _ ⟨_, .binOp .add _ _ _ _, _, _, _, _⟩ _ _ _; first | refine Ac hG Y Y Y Y Y (by omega) ?_ | refine Ac (m := 1) hG Y Y Y Y Y (by omega) ?_ | refine Aa hG Y Y Y Y Y (by omega) ?_)
      | (show AOp _ _ ⟨_, .binOp .quo _ _ _ _, _, _, _, _⟩ _ _ _; first | refine Bb (m := 2) hG Y Y Y Y (by omega) ?_ | refine Bb (m := 4) hG Y Y Y Y (by omega) ?_ | refine Bb (m := 8) hG Y Y Y Y (by omega) ?_)
      | (show AOp _ _ ⟨_, .binOp .rem _ _ _ _, _, _, _, _⟩ _ _ _; first | refine r_rem hG Y Y Y Y (by omega) ?_ | refine r_trem hG Y Y Y Y (by omega) ?_)
      | (show AOp _ _ ⟨_, .binOp _ _ _ _ _, _, _, _, _⟩ _ _ _; first | refine Au hG Y Y Y Y Y (by omega) ?_ | refine Av hG Y Y Y Y Y (by omega) ?_ | (refine Al hG Y Y Y Y Y (fun h => ?_) (fun h => ?_)) | refine Bu hG Y Y Y ?_)
      | (show AOp _ _ ⟨_, .pick _ _ _, _, _, _, _⟩ _ _ _; refine A6 hG Y Y Y ?_)
      | (show AOp _ _ ⟨_, .buildSlice _ _ _, _, _, _, _⟩ _ _ _; first | refine r_mk (sz := 1) hG Y Y Y Y Y Y Y ?_)
      | (show AOp _ _ ⟨_, .call ⟨.builtin .append, _, _⟩, _, _, _, _⟩ _ _ _; fail)
      | refine r_q hG Y Y Y ?_))
    | (show AL _ _ _ _ _ _ _ _; first | refine Bi Y Y Y ?_ | (refine At ?_; first | show AW _ _ _ _ _ _ | show ∃ x', _ < _ ∧ _)) | (show AW _ _ (.seq _ _) _ _ _; refine Ak ?_; intro Q1) | (show AW _ _ (.region _ _ false) _ _ _; refine Ad ?_; intro O1) | (show AW _ _ (.cond _ _ _) _ _ _; first | refine Ap Y ?_ | refine Aq Y ?_ | refine Bc Y (fun h => ?_) (fun h => ?_)) | (show AW _ _ (.skip) _ _ _; refine Aj ?_; first | show AW _ _ _ _ _ _ | show ∃ x', _ < _ ∧ _) | (show AW _ _ (.block _ _) _ _ _; refine Af ?_; intro Q1) | (show AW _ _ (.exit _) _ _ _; refine Am ?_; first | show AW _ _ _ _ _ _ | show ∃ x', _ < _ ∧ _) | (show AW _ _ (.ret) _ _ _; refine Ax ?_; try dsimp only [Aw, Ab, A2, Ag]) | fail)
        refine Ah rfl (Bm (f := mT) (sz := 1) (xs := [id]) (ys := l) hG rfl rfl rfl rfl rfl rfl rfl ⟨_, rfl⟩ rfl rfl rfl rfl rfl rfl rfl (by simp; omega) (fun k => ?_))
        repeat' (first
    | ((show AL _ _ _ _ _ _ _ _; refine Ah Y ?_); (first
      | (show AOp _ _ ⟨_, .move _, _, _, _, _⟩ _ _ _; refine Ar hG Y Y ?_)
      | (show AOp _ _ ⟨_, .assign _, _, _, _, _⟩ _ _ _; refine A4 hG Y Y ?_)
      | (show AOp _ _ ⟨_, .call ⟨.builtin .len, _, _⟩, _, _, _, _⟩ _ _ _; first | refine Bk hG Y Y Y Y ?_ | refine Bv hG Y Y Y Y Y ?_)
      | (show AOp _ _ ⟨_, .binOp .add _ _ _ _, _, _, _, _⟩ _ _ _; first | refine Ac hG Y Y Y Y Y (by omega) ?_ | refine Ac (m := 1) hG Y Y Y Y Y (by omega) ?_ | refine Aa hG Y Y Y Y Y (by omega) ?_)
      | (show AOp _ _ ⟨_, .binOp .quo _ _ _ _, _, _, _, _⟩ _ _ _; first | refine Bb (m := 2) hG Y Y Y Y (by omega) ?_ | refine Bb (m := 4) hG Y Y Y Y (by omega) ?_ | refine Bb (m := 8) hG Y Y Y Y (by omega) ?_)
      | (show AOp _ _ ⟨_, .binOp .rem _ _ _ _, _, _, _, _⟩ _ _ _; first | refine r_rem hG Y Y Y Y (by omega) ?_ | refine r_trem hG Y Y Y Y (by omega) ?_)
      | (show AOp _ _ ⟨_, .binOp _ _ _ _ _, _, _, _, _⟩ _ _ _; first | refine Au hG Y Y Y Y Y (by omega) ?_ | refine Av hG Y Y Y Y Y (by omega) ?_ | (refine Al hG Y Y Y Y Y (fun h => ?_) (fun h => ?_)) | refine Bu hG Y Y Y ?_)
      | (show AOp _ _ ⟨_, .pick _ _ _, _, _, _, _⟩ _ _ _; refine A6 hG Y Y Y ?_)
      | (show AOp _ _ ⟨_, .buildSlice _ _ _, _, _, _, _⟩ _ _ _; first | refine r_mk (sz := 1) hG Y Y Y Y Y Y Y ?_)
      | (show AOp _ _ ⟨_, .call ⟨.builtin .append, _, _⟩, _, _, _, _⟩ _ _ _; first | refine Bm (sz := 1) (xs := []) hG Y Y Y Y Y Y Y ⟨_, Y⟩ Y Y Y Y Y Y Y (by first | omega | (simp; omega)) (fun k => ?_) | refine Bt 0 hG Y Y Y Y Y Y Y ⟨_, Y⟩ Y Y Y Y Y (by first | omega | (simp only [List.length_append, List.length_cons, List.length_nil]; omega)) (fun k => ?_) | fail)
      | refine r_q hG Y Y Y ?_))
    | (show AL _ _ _ _ _ _ _ _; first | refine Bi Y Y Y ?_ | (refine At ?_; first | show AW _ _ _ _ _ _ | show ∃ x', _ < _ ∧ _)) | (show AW _ _ (.seq _ _) _ _ _; refine Ak ?_; intro Q1) | (show AW _ _ (.region _ _ false) _ _ _; refine Ad ?_; intro O1) | (show AW _ _ (.cond _ _ _) _ _ _; first | refine Ap Y ?_ | refine Aq Y ?_ | refine Bc Y (fun h => ?_) (fun h => ?_)) | (show AW _ _ (.skip) _ _ _; refine Aj ?_; first | show AW _ _ _ _ _ _ | show ∃ x', _ < _ ∧ _) | (show AW _ _ (.block _ _) _ _ _; refine Af ?_; intro Q1) | (show AW _ _ (.exit _) _ _ _; refine Am ?_; first | show AW _ _ _ _ _ _ | show ∃ x', _ < _ ∧ _) | (show AW _ _ (.ret) _ _ _; refine Ax ?_; try dsimp only [Aw, Ab, A2, Ag]) | fail)
        exact ⟨⟨n + 1, id / 64, id :: l, by omega, by omega, by simp [hl], e⟩, by dsimp only; omega, .consW rfl (.int (u64_div hid)) (.consW rfl (.own _ _ _) (.cons rfl (.nil _))), keep_step (L' := []) (R' := []) (List.nil_sublist _) (List.nil_sublist _)⟩
    · rw [if_neg h1] at e
      by_cases h2 : id = 1
      · subst h2
        by_cases h3 : l.length ≤ 6
        · rw [if_pos ⟨rfl, h3⟩] at e
          subst e
          repeat' (first
    | ((show AL _ _ _ _ _ _ _ _; refine Ah Y ?_); (first
      | (show AOp _ _ ⟨_, .move _, _, _, _, _⟩ _ _ _; refine Ar hG Y Y ?_)
      | (show AOp _ _ ⟨_, .assign _, _, _, _, _⟩ _ _ _; refine A4 hG Y Y ?_)
      | (show AOp _ _ ⟨_, .call ⟨.builtin .len, _, _⟩, _, _, _, _⟩ _ _ _; first | refine Bk hG Y Y Y Y ?_ | refine Bv hG Y Y Y Y Y ?_)
      | (show AOp _ _ ⟨_, .binOp .add _ _ _ _, _, _, _, _⟩ _ _ _; first | refine Ac hG Y Y Y Y Y (by omega) ?_ | refine Ac (m := 1) hG Y Y Y Y Y (by omega) ?_ | refine Aa hG Y Y Y Y Y (by omega) ?_)
      | (show AOp _ _ ⟨_, .binOp .quo _ _ _ _, _, _, _, _⟩ _ _ _; first | refine Bb (m := 2) hG Y Y Y Y (by omega) ?_ | refine Bb (m := 4) hG Y Y Y Y (by omega) ?_ | refine Bb (m := 8) hG Y Y Y Y (by omega) ?_)
      | (show AOp _ _ ⟨_, .binOp .rem _ _ _ _, _, _, _, _⟩ _ _ _; first | refine r_rem hG Y Y Y Y (by omega) ?_ | refine r_trem hG Y Y Y Y (by omega) ?_)
      | (show AOp _ _ ⟨_, .binOp _ _ _ _ _, _, _, _, _⟩ _ _ _; first | refine Au hG Y Y Y Y Y (by omega) ?_ | refine Av hG Y Y Y Y Y (by omega) ?_ | (refine Al hG Y Y Y Y Y (fun h => ?_) (fun h => ?_)) | refine Bu hG Y Y Y ?_)
      | (show AOp _ _ ⟨_, .pick _ _ _, _, _, _, _⟩ _ _ _; refine A6 hG Y Y Y ?_)
      | (show AOp _ _ ⟨_, .buildSlice _ _ _, _, _, _, _⟩ _ _ _; first | refine r_mk (sz := 1) hG Y Y Y Y Y Y Y ?_)
      | (show AOp _ _ ⟨_, .call ⟨.builtin .append, _, _⟩, _, _, _, _⟩ _ _ _; fail)
      | refine r_q hG Y Y Y ?_))
    | (show AL _ _ _ _ _ _ _ _; first | refine Bi Y Y Y ?_ | (refine At ?_; first | show AW _ _ _ _ _ _ | show ∃ x', _ < _ ∧ _)) | (show AW _ _ (.seq _ _) _ _ _; refine Ak ?_; intro Q1) | (show AW _ _ (.region _ _ false) _ _ _; refine Ad ?_; intro O1) | (show AW _ _ (.cond _ _ _) _ _ _; first | refine Ap Y ?_ | refine Aq Y ?_ | refine Bc Y (fun h => ?_) (fun h => ?_)) | (show AW _ _ (.skip) _ _ _; refine Aj ?_; first | show AW _ _ _ _ _ _ | show ∃ x', _ < _ ∧ _) | (show AW _ _ (.block _ _) _ _ _; refine Af ?_; intro Q1) | (show AW _ _ (.exit _) _ _ _; refine Am ?_; first | show AW _ _ _ _ _ _ | show ∃ x', _ < _ ∧ _) | (show AW _ _ (.ret) _ _ _; refine Ax ?_; try dsimp only [Aw, Ab, A2, Ag]) | fail)
          refine Ah rfl (Bm (f := mT) (sz := 1) (xs := [1]) (ys := l) hG rfl rfl rfl rfl rfl rfl rfl ⟨_, rfl⟩ rfl rfl rfl rfl rfl rfl rfl (by simp; omega) (fun k => ?_))
          repeat' (first
    | ((show AL _ _ _ _ _ _ _ _; refine Ah Y ?_); (first
      | (show AOp _ _ ⟨_, .move _, _, _, _, _⟩ _ _ _; refine Ar hG Y Y ?_)
      | (show AOp _ _ ⟨_, .assign _, _, _, _, _⟩ _ _ _; refine A4 hG Y Y ?_)
      | (show AOp _ _ ⟨_, .call ⟨.builtin .len, _, _⟩, _, _, _, _⟩ _ _ _; first | refine Bk hG Y Y Y Y ?_ | refine Bv hG Y Y Y Y Y ?_)
      | (show AOp _ _ ⟨_, .binOp .add _ _ _ _, _, _, _, _⟩ _ _ _; first | refine Ac hG Y Y Y Y Y (by omega) ?_ | refine Ac (m := 1) hG Y Y Y Y Y (by omega) ?_ | refine Aa hG Y Y Y Y Y (by omega) ?_)
      | (show AOp _ _ ⟨_, .binOp .quo _ _ _ _, _, _, _, _⟩ _ _ _; first | refine Bb (m := 2) hG Y Y Y Y (by omega) ?_ | refine Bb (m := 4) hG Y Y Y Y (by omega) ?_ | refine Bb (m := 8) hG Y Y Y Y (by omega) ?_)
      | (show AOp _ _ ⟨_, .binOp .rem _ _ _ _, _, _, _, _⟩ _ _ _; first | refine r_rem hG Y Y Y Y (by omega) ?_ | refine r_trem hG Y Y Y Y (by omega) ?_)
      | (show AOp _ _ ⟨_, .binOp _ _ _ _ _, _, _, _, _⟩ _ _ _; first | refine Au hG Y Y Y Y Y (by omega) ?_ | refine Av hG Y Y Y Y Y (by omega) ?_ | (refine Al hG Y Y Y Y Y (fun h => ?_) (fun h => ?_)) | refine Bu hG Y Y Y ?_)
      | (show AOp _ _ ⟨_, .pick _ _ _, _, _, _, _⟩ _ _ _; refine A6 hG Y Y Y ?_)
      | (show AOp _ _ ⟨_, .buildSlice _ _ _, _, _, _, _⟩ _ _ _; first | refine r_mk (sz := 1) hG Y Y Y Y Y Y Y ?_)
      | (show AOp _ _ ⟨_, .call ⟨.builtin .append, _, _⟩, _, _, _, _⟩ _ _ _; first | refine Bm (sz := 1) (xs := []) hG Y Y Y Y Y Y Y ⟨_, Y⟩ Y Y Y Y Y Y Y (by first | omega | (simp; omega)) (fun k => ?_) | refine Bt 0 hG Y Y Y Y Y Y Y ⟨_, Y⟩ Y Y Y Y Y (by first | omega | (simp only [List.length_append, List.length_cons, List.length_nil]; omega)) (fun k => ?_) | fail)
      | refine r_q hG Y Y Y ?_))
    | (show AL _ _ _ _ _ _ _ _; first | refine Bi Y Y Y ?_ | (refine At ?_; first | show AW _ _ _ _ _ _ | show ∃ x', _ < _ ∧ _)) | (show AW _ _ (.seq _ _) _ _ _; refine Ak ?_; intro Q1) | (show AW _ _ (.region _ _ false) _ _ _; refine Ad ?_; intro O1) | (show AW _ _ (.cond _ _ _) _ _ _; first | refine Ap Y ?_ | refine Aq Y ?_ | refine Bc Y (fun h => ?_) (fun h => ?_)) | (show AW _ _ (.skip) _ _ _; refine Aj ?_; first | show AW _ _ _ _ _ _ | show ∃ x', _ < _ ∧ _) | (show AW _ _ (.block _ _) _ _ _; refine Af ?_; intro Q1) | (show AW _ _ (.exit _) _ _ _; refine Am ?_; first | show AW _ _ _ _ _ _ | show ∃ x', _ < _ ∧ _) | (show AW _ _ (.ret) _ _ _; refine Ax ?_; try dsimp only [Aw, Ab, A2, Ag]) | fail)
          exact By (Bn rfl Bl) (.own _ _ _) rfl
        · rw [if_neg (by omega)] at e
          subst e
          repeat' (first
    | ((show AL _ _ _ _ _ _ _ _; refine Ah Y ?_); (first
      | (show AOp _ _ ⟨_, .move _, _, _, _, _⟩ _ _ _; refine Ar hG Y Y ?_)
      | (show AOp _ _ ⟨_, .assign _, _, _, _, _⟩ _ _ _; refine A4 hG Y Y ?_)
      | (show AOp _ _ ⟨_, .call ⟨.builtin .len, _, _⟩, _, _, _, _⟩ _ _ _; first | refine Bk hG Y Y Y Y ?_ | refine Bv hG Y Y Y Y Y ?_)
      | (show AOp _ _ ⟨_, .binOp .add _ _ _ _, _, _, _, _⟩ _ _ _; first | refine Ac hG Y Y Y Y Y (by omega) ?_ | refine Ac (m := 1) hG Y Y Y Y Y (by omega) ?_ | refine Aa hG Y Y Y Y Y (by omega) ?_)
      | (show AOp _ _ ⟨_, .binOp .quo _ _ _ _, _, _, _, _⟩ _ _ _; first | refine Bb (m := 2) hG Y Y Y Y (by omega) ?_ | refine Bb (m := 4) hG Y Y Y Y (by omega) ?_ | refine Bb (m := 8) hG Y Y Y Y (by omega) ?_)
      | (show AOp _ _ ⟨_, .binOp .rem _ _ _ _, _, _, _, _⟩ _ _ _; first | refine r_rem hG Y Y Y Y (by omega) ?_ | refine r_trem hG Y Y Y Y (by omega) ?_)
      | (show AOp _ _ ⟨_, .binOp _ _ _ _ _, _, _, _, _⟩ _ _ _; first | refine Au hG Y Y Y Y Y (by omega) ?_ | refine Av hG Y Y Y Y Y (by omega) ?_ | (refine Al hG Y Y Y Y Y (fun h => ?_) (fun h => ?_)) | refine Bu hG Y Y Y ?_)
      | (show AOp _ _ ⟨_, .pick _ _ _, _, _, _, _⟩ _ _ _; refine A6 hG Y Y Y ?_)
      | (show AOp _ _ ⟨_, .buildSlice _ _ _, _, _, _, _⟩ _ _ _; first | refine r_mk (sz := 1) hG Y Y Y Y Y Y Y ?_)
      | (show AOp _ _ ⟨_, .call ⟨.builtin .append, _, _⟩, _, _, _, _⟩ _ _ _; first | refine Bm (sz := 1) (xs := []) hG Y Y Y Y Y Y Y ⟨_, Y⟩ Y Y Y Y Y Y Y (by first | omega | (simp; omega)) (fun k => ?_) | refine Bt 0 hG Y Y Y Y Y Y Y ⟨_, Y⟩ Y Y Y Y Y (by first | omega | (simp only [List.length_append, List.length_cons, List.length_nil]; omega)) (fun k => ?_) | fail)
      | refine r_q hG Y Y Y ?_))
    | (show AL _ _ _ _ _ _ _ _; first | refine Bi Y Y Y ?_ | (refine At ?_; first | show AW _ _ _ _ _ _ | show ∃ x', _ < _ ∧ _)) | (show AW _ _ (.seq _ _) _ _ _; refine Ak ?_; intro Q1) | (show AW _ _ (.region _ _ false) _ _ _; refine Ad ?_; intro O1) | (show AW _ _ (.cond _ _ _) _ _ _; first | refine Ap Y ?_ | refine Aq Y ?_ | refine Bc Y (fun h => ?_) (fun h => ?_)) | (show AW _ _ (.skip) _ _ _; refine Aj ?_; first | show AW _ _ _ _ _ _ | show ∃ x', _ < _ ∧ _) | (show AW _ _ (.block _ _) _ _ _; refine Af ?_; intro Q1) | (show AW _ _ (.exit _) _ _ _; refine Am ?_; first | show AW _ _ _ _ _ _ | show ∃ x', _ < _ ∧ _) | (show AW _ _ (.ret) _ _ _; refine Ax ?_; try dsimp only [Aw, Ab, A2, Ag]) | fail)
          exact By (Bn rfl Bl) (.nil 1) rfl
      · rw [if_neg (by omega)] at e
        subst e
        repeat' (first
    | ((show AL _ _ _ _ _ _ _ _; refine Ah Y ?_); (first
      | (show AOp _ _ ⟨_, .move _, _, _, _, _⟩ _ _ _; refine Ar hG Y Y ?_)
      | (show AOp _ _ ⟨_, .assign _, _, _, _, _⟩ _ _ _; refine A4 hG Y Y ?_)
      | (show AOp _ _ ⟨_, .call ⟨.builtin .len, _, _⟩, _, _, _, _⟩ _ _ _; first | refine Bk hG Y Y Y Y ?_ | refine Bv hG Y Y Y Y Y ?_)
      | (show AOp _ _ ⟨_, .binOp .add _ _ _ _, _, _, _, _⟩ _ _ _; first | refine Ac hG Y Y Y Y Y (by omega) ?_ | refine Ac (m := 1) hG Y Y Y Y Y (by omega) ?_ | refine Aa hG Y Y Y Y Y (by omega) ?_)
      | (show AOp _ _ ⟨_, .binOp .quo _ _ _ _, _, _, _, _⟩ _ _ _; first | refine Bb (m := 2) hG Y Y Y Y (by omega) ?_ | refine Bb (m := 4) hG Y Y Y Y (by omega) ?_ | refine Bb (m := 8) hG Y Y Y Y (by omega) ?_)
      | (show AOp _ _ ⟨_, .binOp .rem _ _ _ _, _, _, _, _⟩ _ _ _; first | refine r_rem hG Y Y Y Y (by omega) ?_ | refine r_trem hG Y Y Y Y (by omega) ?_)
      | (show AOp _ _ ⟨_, .binOp _ _ _ _ _, _, _, _, _⟩ _ _ _; first | refine Au hG Y Y Y Y Y (by omega) ?_ | refine Av hG Y Y Y Y Y (by omega) ?_ | (refine Al hG Y Y Y Y Y (fun h => ?_) (fun h => ?_)) | refine Bu hG Y Y Y ?_)
      | (show AOp _ _ ⟨_, .pick _ _ _, _, _, _, _⟩ _ _ _; refine A6 hG Y Y Y ?_)
      | (show AOp _ _ ⟨_, .buildSlice _ _ _, _, _, _, _⟩ _ _ _; first | refine r_mk (sz := 1) hG Y Y Y Y Y Y Y ?_)
      | (show AOp _ _ ⟨_, .call ⟨.builtin .append, _, _⟩, _, _, _, _⟩ _ _ _; first | refine Bm (sz := 1) (xs := []) hG Y Y Y Y Y Y Y ⟨_, Y⟩ Y Y Y Y Y Y Y (by first | omega | (simp; omega)) (fun k => ?_) | refine Bt 0 hG Y Y Y Y Y Y Y ⟨_, Y⟩ Y Y Y Y Y (by first | omega | (simp only [List.length_append, List.length_cons, List.length_nil]; omega)) (fun k => ?_) | fail)
      | refine r_q hG Y Y Y ?_))
    | (show AL _ _ _ _ _ _ _ _; first | refine Bi Y Y Y ?_ | (refine At ?_; first | show AW _ _ _ _ _ _ | show ∃ x', _ < _ ∧ _)) | (show AW _ _ (.seq _ _) _ _ _; refine Ak ?_; intro Q1) | (show AW _ _ (.region _ _ false) _ _ _; refine Ad ?_; intro O1) | (show AW _ _ (.cond _ _ _) _ _ _; first | refine Ap Y ?_ | refine Aq Y ?_ | refine Bc Y (fun h => ?_) (fun h => ?_)) | (show AW _ _ (.skip) _ _ _; refine Aj ?_; first | show AW _ _ _ _ _ _ | show ∃ x', _ < _ ∧ _) | (show AW _ _ (.block _ _) _ _ _; refine Af ?_; intro Q1) | (show AW _ _ (.exit _) _ _ _; refine Am ?_; first | show AW _ _ _ _ _ _ | show ∃ x', _ < _ ∧ _) | (show AW _ _ (.ret) _ _ _; refine Ax ?_; try dsimp only [Aw, Ab, A2, Ag]) | fail)
        exact By (Bn rfl Bl) (.nil 1) rfl
  · obtain rfl : n = 20 := by omega
    rw [pthGo, if_neg (by omega)] at e
    subst e
    by_cases h1 : 1 < id
    · repeat' (first
    | ((show AL _ _ _ _ _ _ _ _; refine Ah Y ?_); (first
      | (show AOp _ _ ⟨_, .move _, _, _, _, _⟩ _ _ _; refine Ar hG Y Y ?_)
      | (show AOp _ _ ⟨_, .assign _, _, _, _, _⟩ _ _ _; refine A4 hG Y Y ?_)
      | (show AOp _ _ ⟨_, .call ⟨.builtin .len, _, _⟩, _, _, _, _⟩ _ _ _; first | refine Bk hG Y Y Y Y ?_ | refine Bv hG Y Y Y Y Y ?_)
      | (show AOp _ _ ⟨_, .binOp .add _ _ _ _, _, _, _, _⟩ _ _ _; first | refine Ac hG Y Y Y Y Y (by omega) ?_ | refine Ac (m := 1) hG Y Y Y Y Y (by omega) ?_ | refine Aa hG Y Y Y Y Y (by omega) ?_)
      | (show AOp _ _ ⟨_, .binOp .quo _ _ _ _, _, _, _, _⟩ _ _ _; first | refine Bb (m := 2) hG Y Y Y Y (by omega) ?_ | refine Bb (m := 4) hG Y Y Y Y (by omega) ?_ | refine Bb (m := 8) hG Y Y Y Y (by omega) ?_)
      | (show AOp _ _ ⟨_, .binOp .rem _ _ _ _, _, _, _, _⟩ _ _ _; first | refine r_rem hG Y Y Y Y (by omega) ?_ | refine r_trem hG Y Y Y Y (by omega) ?_)
      | (show AOp _ _ ⟨_, .binOp _ _ _ _ _, _, _, _, _⟩ _ _ _; first | refine Au hG Y Y Y Y Y (by omega) ?_ | refine Av hG Y Y Y Y Y (by omega) ?_ | (refine Al hG Y Y Y Y Y (fun h => ?_) (fun h => ?_)) | refine Bu hG Y Y Y ?_)
      | (show AOp _ _ ⟨_, .pick _ _ _, _, _, _, _⟩ _ _ _; refine A6 hG Y Y Y ?_)
      | (show AOp _ _ ⟨_, .buildSlice _ _ _, _, _, _, _⟩ _ _ _; first | refine r_mk (sz := 1) hG Y Y Y Y Y Y Y ?_)
      | (show AOp _ _ ⟨_, .call ⟨.builtin .append, _, _⟩, _, _, _, _⟩ _ _ _; first | refine Bm (sz := 1) (xs := []) hG Y Y Y Y Y Y Y ⟨_, Y⟩ Y Y Y Y Y Y Y (by first | omega | (simp; omega)) (fun k => ?_) | refine Bt 0 hG Y Y Y Y Y Y Y ⟨_, Y⟩ Y Y Y Y Y (by first | omega | (simp only [List.length_append, List.length_cons, List.length_nil]; omega)) (fun k => ?_) | fail)
      | refine r_q hG Y Y Y ?_))
    | (show AL _ _ _ _ _ _ _ _; first | refine Bi Y Y Y ?_ | (refine At ?_; first | show AW _ _ _ _ _ _ | show ∃ x', _ < _ ∧ _)) | (show AW _ _ (.seq _ _) _ _ _; refine Ak ?_; intro Q1) | (show AW _ _ (.region _ _ false) _ _ _; refine Ad ?_; intro O1) | (show AW _ _ (.cond _ _ _) _ _ _; first | refine Ap Y ?_ | refine Aq Y ?_ | refine Bc Y (fun h => ?_) (fun h => ?_)) | (show AW _ _ (.skip) _ _ _; refine Aj ?_; first | show AW _ _ _ _ _ _ | show ∃ x', _ < _ ∧ _) | (show AW _ _ (.block _ _) _ _ _; refine Af ?_; intro Q1) | (show AW _ _ (.exit _) _ _ _; refine Am ?_; first | show AW _ _ _ _ _ _ | show ∃ x', _ < _ ∧ _) | (show AW _ _ (.ret) _ _ _; refine Ax ?_; try dsimp only [Aw, Ab, A2, Ag]) | fail)
      exact By (Bn rfl Bl) (.nil 1) rfl
    · by_cases h2 : id = 1
      · subst h2
        repeat' (first
    | ((show AL _ _ _ _ _ _ _ _; refine Ah Y ?_); (first
      | (show AOp _ _ ⟨_, .move _, _, _, _, _⟩ _ _ _; refine Ar hG Y Y ?_)
      | (show AOp _ _ ⟨_, .assign _, _, _, _, _⟩ _ _ _; refine A4 hG Y Y ?_)
      | (show AOp _ _ ⟨_, .call ⟨.builtin .len, _, _⟩, _, _, _, _⟩ _ _ _; first | refine Bk hG Y Y Y Y ?_ | refine Bv hG Y Y Y Y Y ?_)
      | (show AOp _ _ ⟨_, .binOp .add _ _ _ _, _, _, _, _⟩ _ _ _; first | refine Ac hG Y Y Y Y Y (by omega) ?_ | refine Ac (m := 1) hG Y Y Y Y Y (by omega) ?_ | refine Aa hG Y Y Y Y Y (by omega) ?_)
      | (show AOp _ _ ⟨_, .binOp .quo _ _ _ _, _, _, _, _⟩ _ _ _; first | refine Bb (m := 2) hG Y Y Y Y (by omega) ?_ | refine Bb (m := 4) hG Y Y Y Y (by omega) ?_ | refine Bb (m := 8) hG Y Y Y Y (by omega) ?_)
      | (show AOp _ _ ⟨_, .binOp .rem _ _ _ _, _, _, _, _⟩ _ _ _; first | refine r_rem hG Y Y Y Y (by omega) ?_ | refine r_trem hG Y Y Y Y (by omega) ?_)
      | (show AOp _ _ ⟨_, .binOp _ _ _ _ _, _, _, _, _⟩ _ _ _; first | refine Au hG Y Y Y Y Y (by omega) ?_ | refine Av hG Y Y Y Y Y (by omega) ?_ | (refine Al hG Y Y Y Y Y (fun h => ?_) (fun h => ?_)) | refine Bu hG Y Y Y ?_)
      | (show AOp _ _ ⟨_, .pick _ _ _, _, _, _, _⟩ _ _ _; refine A6 hG Y Y Y ?_)
      | (show AOp _ _ ⟨_, .buildSlice _ _ _, _, _, _, _⟩ _ _ _; first | refine r_mk (sz := 1) hG Y Y Y Y Y Y Y ?_)
      | (show AOp _ _ ⟨_, .call ⟨.builtin .append, _, _⟩, _, _, _, _⟩ _ _ _; first | refine Bm (sz := 1) (xs := []) hG Y Y Y Y Y Y Y ⟨_, Y⟩ Y Y Y Y Y Y Y (by first | omega | (simp; omega)) (fun k => ?_) | refine Bt 0 hG Y Y Y Y Y Y Y ⟨_, Y⟩ Y Y Y Y Y (by first | omega | (simp only [List.length_append, List.length_cons, List.length_nil]; omega)) (fun k => ?_) | fail)
      | refine r_q hG Y Y Y ?_))
    | (show AL _ _ _ _ _ _ _ _; first | refine Bi Y Y Y ?_ | (refine At ?_; first | show AW _ _ _ _ _ _ | show ∃ x', _ < _ ∧ _)) | (show AW _ _ (.seq _ _) _ _ _; refine Ak ?_; intro Q1) | (show AW _ _ (.region _ _ false) _ _ _; refine Ad ?_; intro O1) | (show AW _ _ (.cond _ _ _) _ _ _; first | refine Ap Y ?_ | refine Aq Y ?_ | refine Bc Y (fun h => ?_) (fun h => ?_)) | (show AW _ _ (.skip) _ _ _; refine Aj ?_; first | show AW _ _ _ _ _ _ | show ∃ x', _ < _ ∧ _) | (show AW _ _ (.block _ _) _ _ _; refine Af ?_; intro Q1) | (show AW _ _ (.exit _) _ _ _; refine Am ?_; first | show AW _ _ _ _ _ _ | show ∃ x', _ < _ ∧ _) | (show AW _ _ (.ret) _ _ _; refine Ax ?_; try dsimp only [Aw, Ab, A2, Ag]) | fail)
        exact By (Bn rfl Bl) (.nil 1) rfl
      · repeat' (first
    | ((show AL _ _ _ _ _ _ _ _; refine Ah Y ?_); (first
      | (show AOp _ _ ⟨_, .move _, _, _, _, _⟩ _ _ _; refine Ar hG Y Y ?_)
      | (show AOp _ _ ⟨_, .assign _, _, _, _, _⟩ _ _ _; refine A4 hG Y Y ?_)
      | (show AOp _ _ ⟨_, .call ⟨.builtin .len, _, _⟩, _, _, _, _⟩ _ _ _; first | refine Bk hG Y Y Y Y ?_ | refine Bv hG Y Y Y Y Y ?_)
      | (show AOp _ _ ⟨_, .binOp .add _ _ _ _, _, _, _, _⟩ _ _ _; first | refine Ac hG Y Y Y Y Y (by omega) ?_ | refine Ac (m := 1) hG Y Y Y Y Y (by omega) ?_ | refine Aa hG Y Y Y Y Y (by omega) ?_)
      | (show AOp _ _ ⟨_, .binOp .quo _ _ _ _, _, _, _, _⟩ _ _ _; first | refine Bb (m := 2) hG Y Y Y Y (by omega) ?_ | refine Bb (m := 4) hG Y Y Y Y (by omega) ?_ | refine Bb (m := 8) hG Y Y Y Y (by omega) ?_)
      | (show AOp _ _ ⟨_, .binOp .rem _ _ _ _, _, _, _, _⟩ _ _ _; first | refine r_rem hG Y Y Y Y (by omega) ?_ | refine r_trem hG Y Y Y Y (by omega) ?_)
      | (show AOp _ _ ⟨_, .binOp _ _ _ _ _, _, _, _, _⟩ _ _ _; first | refine Au hG Y Y Y Y Y (by omega) ?_ | refine Av hG Y Y Y Y Y (by omega) ?_ | (refine Al hG Y Y Y Y Y (fun h => ?_) (fun h => ?_)) | refine Bu hG Y Y Y ?_)
      | (show AOp _ _ ⟨_, .pick _ _ _, _, _, _, _⟩ _ _ _; refine A6 hG Y Y Y ?_)
      | (show AOp _ _ ⟨_, .buildSlice _ _ _, _, _, _, _⟩ _ _ _; first | refine r_mk (sz := 1) hG Y Y Y Y Y Y Y ?_)
      | (show AOp _ _ ⟨_, .call ⟨.builtin .append, _, _⟩, _, _, _, _⟩ _ _ _; first | refine Bm (sz := 1) (xs := []) hG Y Y Y Y Y Y Y ⟨_, Y⟩ Y Y Y Y Y Y Y (by first | omega | (simp; omega)) (fun k => ?_) | refine Bt 0 hG Y Y Y Y Y Y Y ⟨_, Y⟩ Y Y Y Y Y (by first | omega | (simp only [List.length_append, List.length_cons, List.length_nil]; omega)) (fun k => ?_) | fail)
      | refine r_q hG Y Y Y ?_))
    | (show AL _ _ _ _ _ _ _ _; first | refine Bi Y Y Y ?_ | (refine At ?_; first | show AW _ _ _ _ _ _ | show ∃ x', _ < _ ∧ _)) | (show AW _ _ (.seq _ _) _ _ _; refine Ak ?_; intro Q1) | (show AW _ _ (.region _ _ false) _ _ _; refine Ad ?_; intro O1) | (show AW _ _ (.cond _ _ _) _ _ _; first | refine Ap Y ?_ | refine Aq Y ?_ | refine Bc Y (fun h => ?_) (fun h => ?_)) | (show AW _ _ (.skip) _ _ _; refine Aj ?_; first | show AW _ _ _ _ _ _ | show ∃ x', _ < _ ∧ _) | (show AW _ _ (.block _ _) _ _ _; refine Af ?_; intro Q1) | (show AW _ _ (.exit _) _ _ _; refine Am ?_; first | show AW _ _ _ _ _ _ | show ∃ x', _ < _ ∧ _) | (show AW _ _ (.ret) _ _ _; refine Ax ?_; try dsimp only [Aw, Ab, A2, Ag]) | fail)
        exact By (Bn rfl Bl) (.nil 1) rfl
end Go.Proofs.Ytmckbfdklcmogaa
namespace Go.Proofs.Ytmckbfdklcmogaa
open Go.Ts
set_option linter.unusedSimpArgs false
set_option linter.unusedVariables false
theorem ty_int {G : Nat → Option TI} {n t : Nat} {cs : List T} {ti : TI} {k : IntKind} (h : Ty G (n + 1) t cs) (ht : G t = some ti) (htd : ti.d = .int k) : ∃ v, cs = [.int k v] ∧ (Lit.int k v).wf = true := by
  simpa only [Ty, ht, htd] using h
theorem ty_struct {G : Nat → Option TI} {n t : Nat} {cs : List T} {ti : TI} {fs : List (Nat × Nat)} (h : Ty G (n + 1) t cs) (ht : G t = some ti) (htd : ti.d = .struct fs) : TyFs (Ty G n) fs cs := by
  simpa only [Ty, ht, htd] using h
theorem argTy_ob {G : Nat → Option TI} {n t tq ti8 tl ts tb tc tr tu tps t16 o0 o1 o2 o3 o4 o5 o6 o7 o8 o9 o10 o11 o12 o13 o14 : Nat} {tp : Nat} {x : T} {it iq ii il is ib ic ir iu ips : TI}
    (h : ArgTy G (n + 6) t x) (ht : G t = some it) (htd : it.d = .struct [(o0, tq), (o1, ti8), (o2, tl), (o3, ts), (o4, ti8), (o5, ti8), (o6, ti8), (o7, tb), (o8, tc), (o9, tr)])
    (hq : G tq = some iq) (hqd : iq.d = .int .u64) (hi : G ti8 = some ii) (hid : ii.d = .int .i64) (hl : G tl = some il) (hld : il.d = .struct [(o10, tu), (o11, tps)]) (hs : G ts = some is) (hsd : is.d = .struct [(o12, tc), (o13, tc), (o14, tc)])
    (hb : G tb = some ib) (hbd : ib.d = .slice tu) (hc : G tc = some ic) (hcd : ic.d = .slice t16) (hr : G tr = some ir) (hrd : ir.d = .slice tb) (hu : G tu = some iu) (hud : iu.d = .int .u8)
    (hps : G tps = some ips) (hpsd : ips.d = .slice tp) :
    ∃ o : OB, x = oT o := by
  obtain ⟨cs, rfl, p0, q0, rfl, f0, p1, q1, rfl, f1, p2, q2, rfl, f2, p3, q3, rfl, f3, p4, q4, rfl, f4, p5, q5, rfl, f5, p6, q6, rfl, f6, p7, q7, rfl, f7, p8, q8, rfl, f8, p9, q9, rfl, f9, rfl⟩ := argTy_struct h ht htd
  obtain ⟨v0, rfl, w0⟩ := ty_int f0 hq hqd
  obtain ⟨v1, rfl, w1⟩ := ty_int f1 hi hid
  obtain ⟨l1, m1, rfl, g1, l2, m2, rfl, g2, rfl⟩ := ty_struct f2 hl hld
  obtain ⟨vd, rfl, wd⟩ := ty_int g1 hu hud
  obtain ⟨xs, rfl, hxs, _⟩ := ty_slice g2 hps hpsd
  obtain ⟨s1, n1, rfl, e1, s2, n2, rfl, e2, s3, n3, rfl, e3, rfl⟩ := ty_struct f3 hs hsd
  obtain ⟨a, rfl, ha⟩ := ty_slice e1 hc hcd
  obtain ⟨b, rfl, hb'⟩ := ty_slice e2 hc hcd
  obtain ⟨c, rfl, hc'⟩ := ty_slice e3 hc hcd
  obtain ⟨v4, rfl, w4⟩ := ty_int f4 hi hid
  obtain ⟨v5, rfl, w5⟩ := ty_int f5 hi hid
  obtain ⟨v6, rfl, w6⟩ := ty_int f6 hi hid
  obtain ⟨d, rfl, hd⟩ := ty_slice f7 hb hbd
  obtain ⟨cc, rfl, hcc⟩ := ty_slice f8 hc hcd
  obtain ⟨r, rfl, hr1⟩ := ty_slice f9 hr hrd
  have u0 := wf_u64 w0
  refine ⟨⟨v0.toNat, v1, .int .u8 vd, .sl ((sizeT G tp).getD 0) .no xs, .sl ((sizeT G t16).getD 0) .no a, .sl ((sizeT G t16).getD 0) .no b, .sl ((sizeT G t16).getD 0) .no c, .int .i64 v4, .int .i64 v5, .int .i64 v6, .sl ((sizeT G tu).getD 0) .no d, .sl ((sizeT G t16).getD 0) .no cc, .sl ((sizeT G tb).getD 0) .no r, by omega, by rfl⟩, ?_⟩
  simp only [oT, List.cons_append, List.nil_append]
  rw [show ((v0.toNat : Nat) : Int) = v0 by omega]
theorem obs_of {G : Nat → Option TI} {n e : Nat} (k : ∀ x, ArgTy G n e x → ∃ o : OB, x = oT o) : ∀ (xs : List T), (∀ y ∈ xs, Ty G n e y.cells ∧ AggOK G e y) → ∃ l : List OB, xs = l.map oT
  | [], _ => ⟨[], rfl⟩
  | x :: xs, h => by
    obtain ⟨l, hl⟩ := obs_of k xs (fun y hy => h y (List.mem_cons_of_mem _ hy))
    obtain ⟨o, rfl⟩ := k x (h x List.mem_cons_self)
    exact ⟨o :: l, by rw [hl]; rfl⟩
theorem argTy_obs {x : T} (h : ArgTy G 7 22 x) : ∃ l : List OB, x = .sl 13 .no (l.map oT) ∧ l.length ≤ bigLen := by
  obtain ⟨xs, h1, h2, h3⟩ := ty_slice (argTy_cells h rfl rfl) rfl rfl
  obtain ⟨l, rfl⟩ := obs_of (fun x hx => argTy_ob (n := 0) hx rfl rfl rfl rfl rfl rfl rfl rfl rfl rfl rfl rfl rfl rfl rfl rfl rfl rfl rfl rfl) xs h3
  injection h1 with h1
  exact ⟨l, h1, by simpa using h2⟩
theorem ref_Parent {id : Nat} (hid : id < 18446744073709551616) : Ts.Pure Try.prog 15 [mT id] (mT (parN id)) := by
  have h := ref_Path hid
  have hp : parN id = match nm 6 id with
    | some (_ :: _) => id / 64
    | _ => 0 := rfl
  intro off
  cases e : nm 6 id with
  | none =>
    rw [e] at hp
    have hl : pathL id = [] := by rw [pathL, e]; rfl
    rw [hl] at h
    rw [hp]
    have n0 : ([] : List Nat).length = 0 := rfl
    refine Bq (N := 15) (rs := [.tmp 2]) hG Try.func15 rfl rfl rfl rfl rfl ?_
    repeat' (first
    | ((show AL _ _ _ _ _ _ _ _; refine Ah Y ?_); (first
      | (show AOp _ _ ⟨_, .move _, _, _, _, _⟩ _ _ _; refine Ar hG Y Y ?_)
      | (show AOp _ _ ⟨_, .assign _, _, _, _, _⟩ _ _ _; refine A4 hG Y Y ?_)
      | (show AOp _ _ ⟨_, .call ⟨.builtin .len, _, _⟩, _, _, _, _⟩ _ _ _; first | refine Bk hG Y Y Y Y ?_ | refine Bv hG Y Y Y Y Y ?_)
      | (show AOp _ _ ⟨_, .binOp .sub _ _ _ _, _, _, _, _⟩ _ _ _; first | refine Ai hG Y Y Y Y (by omega) ?_ | refine Ai (m := 1) hG Y Y Y Y (by omega) ?_ | refine B6 (m := 1) hG Y Y Y Y (by omega) ?_ | refine Aa hG Y Y Y Y Y (by omega) ?_)
      | (show AOp _ _ ⟨_, .binOp _ _ _ _ _, _, _, _, _⟩ _ _ _; first | refine Au hG Y Y Y Y Y (by omega) ?_ | refine Av hG Y Y Y Y Y (by omega) ?_ | (refine Al hG Y Y Y Y Y (fun h => ?_) (fun h => ?_)))
      | (show AOp _ _ ⟨_, .load _ _, _, _, _, _⟩ _ _ _; first | refine Ao (α := UInt16) 0 hG Y Y Y Y (by omega) Y ?_ | refine Ao (α := UInt16) 1 hG Y Y Y Y (by omega) Y ?_ | refine Az hG Y Y Y ?_ | refine Bf 0 hG Y Y Y Y ?_)
      | (show AOp _ _ ⟨_, .indexAddr _ _ _, _, _, _, _⟩ _ _ _; first | refine A3 hG Y Y Y Y Y Y Y (by omega) ?_ | refine A1 hG Y Y Y Y Y Y Y (by omega) ?_ | refine A0 hG Y Y Y Y Y Y Y (by omega) ?_ | refine Ba hG Y Y ?_)
      | (show AOp _ _ ⟨_, .call ⟨.value _, _, _⟩, _, _, _, _⟩ _ _ _; first | refine Br Y Y Y Y Y (by first | (apply h <;> (first | assumption | omega | exact A7 _ _ | exact Bg _ | exact Bd _ _ | exact Bj _ | rfl | (simp; omega))) | fail) ?_ | fail)
      | refine r_q hG Y Y Y ?_))
    | (show AL _ _ _ _ _ _ _ _; first | refine Bi Y Y Y ?_ | (refine At ?_; first | show AW _ _ _ _ _ _ | show ∃ x', _ < _ ∧ _)) | (show AW _ _ (.seq _ _) _ _ _; refine Ak ?_; intro Q1) | (show AW _ _ (.region _ _ false) _ _ _; refine Ad ?_; intro O1) | (show AW _ _ (.cond _ _ _) _ _ _; first | refine Ap Y ?_ | refine Aq Y ?_ | refine Bc Y (fun h => ?_) (fun h => ?_)) | (show AW _ _ (.skip) _ _ _; refine Aj ?_; first | show AW _ _ _ _ _ _ | show ∃ x', _ < _ ∧ _) | (show AW _ _ (.ret) _ _ _; refine Ax ?_; try dsimp only [Aw, Ab, A2, Ag]) | fail)
    exact By (Bn rfl Bl) (.refl _) rfl
  | some ns =>
    cases ns with
    | nil =>
      rw [e] at hp
      have hl : pathL id = [1] := by rw [pathL, e]; rfl
      rw [hl] at h
      rw [hp]
      have n0 : ([1] : List Nat).length = 1 := rfl
      refine Bq (N := 15) (rs := [.tmp 2]) hG Try.func15 rfl rfl rfl rfl rfl ?_
      repeat' (first
    | ((show AL _ _ _ _ _ _ _ _; refine Ah Y ?_); (first
      | (show AOp _ _ ⟨_, .move _, _, _, _, _⟩ _ _ _; refine Ar hG Y Y ?_)
      | (show AOp _ _ ⟨_, .assign _, _, _, _, _⟩ _ _ _; refine A4 hG Y Y ?_)
      | (show AOp _ _ ⟨_, .call ⟨.builtin .len, _, _⟩, _, _, _, _⟩ _ _ _; first | refine Bk hG Y Y Y Y ?_ | refine Bv hG Y Y Y Y Y ?_)
      | (show AOp _ _ ⟨_, .binOp .sub _ _ _ _, _, _, _, _⟩ _ _ _; first | refine Ai hG Y Y Y Y (by omega) ?_ | refine Ai (m := 1) hG Y Y Y Y (by omega) ?_ | refine B6 (m := 1) hG Y Y Y Y (by omega) ?_ | refine Aa hG Y Y Y Y Y (by omega) ?_)
      | (show AOp _ _ ⟨_, .binOp _ _ _ _ _, _, _, _, _⟩ _ _ _; first | refine Au hG Y Y Y Y Y (by omega) ?_ | refine Av hG Y Y Y Y Y (by omega) ?_ | (refine Al hG Y Y Y Y Y (fun h => ?_) (fun h => ?_)))
      | (show AOp _ _ ⟨_, .load _ _, _, _, _, _⟩ _ _ _; first | refine Ao (α := UInt16) 0 hG Y Y Y Y (by omega) Y ?_ | refine Ao (α := UInt16) 1 hG Y Y Y Y (by omega) Y ?_ | refine Az hG Y Y Y ?_ | refine Bf 0 hG Y Y Y Y ?_)
      | (show AOp _ _ ⟨_, .indexAddr _ _ _, _, _, _, _⟩ _ _ _; first | refine A3 hG Y Y Y Y Y Y Y (by omega) ?_ | refine A1 hG Y Y Y Y Y Y Y (by omega) ?_ | refine A0 hG Y Y Y Y Y Y Y (by omega) ?_ | refine Ba hG Y Y ?_)
      | (show AOp _ _ ⟨_, .call ⟨.value _, _, _⟩, _, _, _, _⟩ _ _ _; first | refine Br Y Y Y Y Y (by first | (apply h <;> (first | assumption | omega | exact A7 _ _ | exact Bg _ | exact Bd _ _ | exact Bj _ | rfl | (simp; omega))) | fail) ?_ | fail)
      | refine r_q hG Y Y Y ?_))
    | (show AL _ _ _ _ _ _ _ _; first | refine Bi Y Y Y ?_ | (refine At ?_; first | show AW _ _ _ _ _ _ | show ∃ x', _ < _ ∧ _)) | (show AW _ _ (.seq _ _) _ _ _; refine Ak ?_; intro Q1) | (show AW _ _ (.region _ _ false) _ _ _; refine Ad ?_; intro O1) | (show AW _ _ (.cond _ _ _) _ _ _; first | refine Ap Y ?_ | refine Aq Y ?_ | refine Bc Y (fun h => ?_) (fun h => ?_)) | (show AW _ _ (.skip) _ _ _; refine Aj ?_; first | show AW _ _ _ _ _ _ | show ∃ x', _ < _ ∧ _) | (show AW _ _ (.ret) _ _ _; refine Ax ?_; try dsimp only [Aw, Ab, A2, Ag]) | fail)
      exact By (Bn rfl Bl) (.refl _) rfl
    | cons x ns =>
      obtain ⟨h1, h2⟩ := path_par e
      have h3 := (nm_path 6 _ _ h2).1
      have hl : pathL (parN id) = pathF ns := by rw [pathL, h2]; rfl
      have hlen := pathF_len ns
      rw [hl] at h1
      have hlm : (pathL id).length = ns.length + 2 := by rw [h1]; simp [hlen]
      have hns : ns.length ≤ 6 := (nm_path 6 _ _ h2).2.1
      have hg : (pathL id).getD ((pathL id).length - 2) default = parN id := by
        rw [hlm, h1, ← h3]
        simp only [List.getD]
        rw [List.getElem?_append_left (by omega), show ns.length + 2 - 2 = (pathF ns).length - 1 by omega, ← List.getLast?_eq_getElem?]
        cases hq : pathF ns with
        | nil => rw [hq] at hlen; simp at hlen
        | cons y q =>
          rw [List.getLast?_eq_some_getLast (List.cons_ne_nil y q)]
          simp [List.getLastD]
      generalize pathL id = p at *
      rw [← hg]
      refine Bq (N := 15) (rs := [.tmp 2]) hG Try.func15 rfl rfl rfl rfl rfl ?_
      repeat' (first
    | ((show AL _ _ _ _ _ _ _ _; refine Ah Y ?_); (first
      | (show AOp _ _ ⟨_, .move _, _, _, _, _⟩ _ _ _; refine Ar hG Y Y ?_)
      | (show AOp _ _ ⟨_, .assign _, _, _, _, _⟩ _ _ _; refine A4 hG Y Y ?_)
      | (show AOp _ _ ⟨_, .call ⟨.builtin .len, _, _⟩, _, _, _, _⟩ _ _ _; first | refine Bk hG Y Y Y Y ?_ | refine Bv hG Y Y Y Y Y ?_)
      | (show AOp _ _ ⟨_, .binOp .sub _ _ _ _, _, _, _, _⟩ _ _ _; first | refine Ai hG Y Y Y Y (by omega) ?_ | refine Ai (m := 1) hG Y Y Y Y (by omega) ?_ | refine B6 (m := 1) hG Y Y Y Y (by omega) ?_ | refine Aa hG Y Y Y Y Y (by omega) ?_)
      | (show AOp _ _ ⟨_, .binOp _ _ _ _ _, _, _, _, _⟩ _ _ _; first | refine Au hG Y Y Y Y Y (by omega) ?_ | refine Av hG Y Y Y Y Y (by omega) ?_ | (refine Al hG Y Y Y Y Y (fun h => ?_) (fun h => ?_)))
      | (show AOp _ _ ⟨_, .load _ _, _, _, _, _⟩ _ _ _; first | refine Ao (α := UInt16) 0 hG Y Y Y Y (by omega) Y ?_ | refine Ao (α := UInt16) 1 hG Y Y Y Y (by omega) Y ?_ | refine Az hG Y Y Y ?_ | refine Bf 0 hG Y Y Y Y ?_)
      | (show AOp _ _ ⟨_, .indexAddr _ _ _, _, _, _, _⟩ _ _ _; first | refine A3 hG Y Y Y Y Y Y Y (by omega) ?_ | refine A1 hG Y Y Y Y Y Y Y (by omega) ?_ | refine A0 hG Y Y Y Y Y Y Y (by omega) ?_ | refine Ba hG Y Y ?_)
      | (show AOp _ _ ⟨_, .call ⟨.value _, _, _⟩, _, _, _, _⟩ _ _ _; first | refine Br Y Y Y Y Y (by first | (apply h <;> (first | assumption | omega | exact A7 _ _ | exact Bg _ | exact Bd _ _ | exact Bj _ | rfl | (simp; omega))) | fail) ?_ | fail)
      | refine r_q hG Y Y Y ?_))
    | (show AL _ _ _ _ _ _ _ _; first | refine Bi Y Y Y ?_ | (refine At ?_; first | show AW _ _ _ _ _ _ | show ∃ x', _ < _ ∧ _)) | (show AW _ _ (.seq _ _) _ _ _; refine Ak ?_; intro Q1) | (show AW _ _ (.region _ _ false) _ _ _; refine Ad ?_; intro O1) | (show AW _ _ (.cond _ _ _) _ _ _; first | refine Ap Y ?_ | refine Aq Y ?_ | refine Bc Y (fun h => ?_) (fun h => ?_)) | (show AW _ _ (.skip) _ _ _; refine Aj ?_; first | show AW _ _ _ _ _ _ | show ∃ x', _ < _ ∧ _) | (show AW _ _ (.ret) _ _ _; refine Ax ?_; try dsimp only [Aw, Ab, A2, Ag]) | fail)
      exact By (Bn rfl Bl) (.eq (by simp only [tup1]; congr 2; omega)) rfl
end Go.Proofs.Ytmckbfdklcmogaa
namespace Go.Proofs.Ytmckbfdklcmogaa
open Go.Ts
set_option linter.unusedSimpArgs false
set_option linter.unusedVariables false
set_option linter.unnecessarySimpa false
attribute [local irreducible] Go.Ts.AW Go.Ts.AOps Go.Ts.AL Go.Ts.AOp Go.Ts.ACalls Go.Ts.DL Go.Ts.DQ0 Go.Ts.EL
theorem reachO {own : Own} {l : List OB} (hl : l.length < 256) {R : List Nat} (hR : reachL l = R) : Ts.Pure Try.prog 10 [.sl 13 own (l.map oT)] (.sl 1 .no (R.map mT)) := by
  rw [← hR]
  exact Pure.weak (us := [.sl 13 .no (l.map oT)]) (walk_Reach hl) (wk1 (.own _ _ _))
theorem mem_take_succ {r : List Nat} {m id : Nat} (h : m < r.length) : decide (id ∈ r.take (m + 1)) = (decide (id ∈ r.take m) || decide (r.getD m default = id)) := by
  rw [List.take_add_one]
  simp only [List.getD, h, List.getElem?_eq_getElem, Option.toList_some, Option.getD_some, List.mem_append, List.mem_singleton, Bool.decide_or]
  rw [decide_eq_decide.2 (eq_comm (a := id) (b := r[m]))]
theorem filter_snoc {l : List OB} {i : Nat} {p : OB → Bool} (h : i < l.length) : (l.take (i + 1)).filter p = (l.take i).filter p ++ (if p (l.getD i default) = true then [l.getD i default] else []) := by
  rw [List.take_add_one, List.filter_append]
  congr 1
  simp only [List.getElem?_eq_getElem h, Option.toList_some, List.getD, Option.getD_some]
  by_cases hb : p l[i] = true <;> simp [hb]
end Go.Proofs.Ytmckbfdklcmogaa
namespace Go.Proofs.Ytmckbfdklcmogaa
open Go.Ts
set_option linter.unusedSimpArgs false
set_option linter.unusedVariables false
set_option linter.unnecessarySimpa false
attribute [local irreducible] Go.Ts.AW Go.Ts.AOps Go.Ts.AL Go.Ts.AOp Go.Ts.ACalls Go.Ts.DL Go.Ts.DQ0 Go.Ts.EL
theorem withinO {own : Own} {l : List OB} {v : Nat} (hl : l.length ≤ 31) {R : List Nat} (hR : withinL l v = R) : Ts.Pure Try.prog 12 [.sl 13 own (l.map oT), mT v] (.sl 1 .no (R.map mT)) := by
  rw [← hR]
  exact Pure.weak (us := [.sl 13 .no (l.map oT), mT v]) (walk_Within hl) (wk2 (.own _ _ _) (.refl _))
structure DoX (r : List Nat) where
  i : Nat
  hi : i ≤ r.length
structure DoY (r : List Nat) (i : Nat) where
  k : Nat
  b : Bool
  hk : k ≤ i
  hb : b = (decide (r.getD i default = 1) || decide (parN (r.getD i default) ∈ r.take k))
structure DoZ (l : List OB) (g : Nat) where
  i : Nat
  less : List OB
  k : Nat
  hi : i ≤ l.length
  ho : less = (l.take i).filter fun o => decide (o.id ≠ g)
set_option maxHeartbeats 2000000 in
theorem walkDown_pure {l : List OB} {n : UInt8} (hl : l.length ≤ bigLen) : Ts.Pure Try.prog 6 [.sl 13 .no (l.map oT), bT n] (.bool true) := by
  have h0 := c_begun
  intro off
  by_cases h20 : 20 < l.length
  · refine Bq (N := 108) (rs := [.tmp 4]) hG Try.func6 rfl rfl rfl rfl rfl ?_
    repeat' (first
    | ((first | (show AL _ _ _ _ _ _ _ _; refine Ah Y ?_) | (show DL _ _ _ _ _ _ _; refine' A5 Y Y (fun K kk => ?_) ?_; try (show Go.Ts.T; rotate_left))); (first
      | (show AOp _ _ ⟨_, .move _, _, _, _, _⟩ _ _ _; refine Ar hG Y Y ?_)
      | (show AOp _ _ ⟨_, .assign _, _, _, _, _⟩ _ _ _; refine A4 hG Y Y ?_)
      | (show AOp _ _ ⟨_, .call ⟨.builtin .len, _, _⟩, _, _, _, _⟩ _ _ _; first | refine Bk hG Y Y Y Y ?_ | refine Bv hG Y Y Y Y Y ?_)
      | (show AOp _ _ ⟨_, .binOp .add _ _ _ _, _, _, _, _⟩ _ _ _; first | refine Ac hG Y Y Y Y Y (by omega) ?_ | refine Ac (m := 1) hG Y Y Y Y Y (by omega) ?_ | refine Aa hG Y Y Y Y Y (by omega) ?_)
      | (show AOp _ _ ⟨_, .binOp .sub _ _ _ _, _, _, _, _⟩ _ _ _; first | refine Ai hG Y Y Y Y (by omega) ?_ | refine Ai (m := 1) hG Y Y Y Y (by omega) ?_ | refine B6 (m := 1) hG Y Y Y Y (by omega) ?_ | refine Aa hG Y Y Y Y Y (by omega) ?_)
      | (show AOp _ _ ⟨_, .binOp .rem _ _ _ _, _, _, _, _⟩ _ _ _; first | refine r_rem hG Y Y Y Y (by omega) ?_ | refine r_trem hG Y Y Y Y (by omega) ?_)
      | (show AOp _ _ ⟨_, .binOp _ _ _ _ _, _, _, _, _⟩ _ _ _; first | refine Au hG Y Y Y Y Y (by omega) ?_ | refine Av hG Y Y Y Y Y (by omega) ?_ | ((fail_if_success have := kk); refine Al hG Y Y Y Y Y (fun h => ?_) (fun h => ?_)))
      | (show AOp _ _ ⟨_, .load _ _, _, _, _, _⟩ _ _ _; first | refine Ao (α := UInt16) 0 hG Y Y Y Y (by omega) Y ?_ | refine Ao (α := UInt16) 1 hG Y Y Y Y (by omega) Y ?_ | refine Az hG Y Y Y ?_ | refine Bf 0 hG Y Y Y Y ?_)
      | (show AOp _ _ ⟨_, .indexAddr _ _ _, _, _, _, _⟩ _ _ _; first | refine A3 hG Y Y Y Y Y Y Y (by omega) ?_ | refine A1 hG Y Y Y Y Y Y Y (by omega) ?_ | refine A0 hG Y Y Y Y Y Y Y (by omega) ?_ | refine Ba hG Y Y ?_)
      | (show AOp _ _ ⟨_, .convert _ _ _, _, _, _, _⟩ _ _ _; first | refine r_cv8 hG Y Y Y Y Y Y ?_ | refine B4 hG Y Y Y Y Y (by omega) ?_ | refine r_cvw hG Y Y Y Y Y ?_)
      | (show AOp _ _ ⟨_, .pick _ _ _, _, _, _, _⟩ _ _ _; refine A6 hG Y Y Y ?_)
      | (show AOp _ _ ⟨_, .unOp _ _ _, _, _, _, _⟩ _ _ _; refine Bo hG Y Y Y ?_)
      | (show AOp _ _ ⟨_, .buildSlice _ _ _, _, _, _, _⟩ _ _ _; first | refine r_mk (sz := 13) hG Y Y Y Y Y Y Y ?_)
      | (show AOp _ _ ⟨_, .call ⟨.builtin .append, _, _⟩, _, _, _, _⟩ _ _ _; first | refine Bm (sz := 1) (xs := []) hG Y Y Y Y Y Y Y ⟨_, Y⟩ Y Y Y Y Y Y Y (by first | omega | (simp; omega)) (fun k => ?_) | refine Bt 0 hG Y Y Y Y Y Y Y ⟨_, Y⟩ Y Y Y Y Y (by first | omega | (simp only [List.length_append, List.length_cons, List.length_nil]; omega)) (fun k => ?_) | fail)
      | (show AOp _ _ ⟨_, .call ⟨.value _, _, _⟩, _, _, _, _⟩ _ _ _; first | refine Br Y Y Y Y Y (by first | (apply h0 <;> (first | assumption | omega | exact A7 _ _ | exact Bg _ | exact Bd _ _ | exact Bj _ | rfl | (simp; omega))) | fail) ?_ | fail)
      | refine r_q hG Y Y Y ?_); try exact kk)
    | (show AL _ _ _ _ _ _ _ _; first | refine Bi Y Y Y ?_ | (refine At ?_; first | show AW _ _ _ _ _ _ | show ∃ x', _ < _ ∧ _)) | (show AW _ _ (.seq _ _) _ _ _; refine Ak ?_; intro Q1) | (show AW _ _ (.region _ _ false) _ _ _; refine Ad ?_; intro O1) | (show AW _ _ (.cond _ _ _) _ _ _; first | refine Ap Y ?_ | refine Aq Y ?_ | refine Bc Y (fun h => ?_) (fun h => ?_)) | (show AW _ _ (.skip) _ _ _; refine Aj ?_; first | show AW _ _ _ _ _ _ | show ∃ x', _ < _ ∧ _) | (show AW _ _ (.block _ _) _ _ _; refine Af ?_; intro Q1) | (show AW _ _ (.exit _) _ _ _; refine Am ?_; first | show AW _ _ _ _ _ _ | show ∃ x', _ < _ ∧ _) | (show AW _ _ (.ret) _ _ _; refine Ax ?_; try dsimp only [Aw, Ab, A2, Ag])
    | (show DL _ _ _ _ _ _ _; refine Bx Y Y (fun K kt kf => Al hG Y Y Y Y Y kt kf) (fun h => ?_) (fun h => ?_))
    | (show DL _ _ _ _ _ _ _; refine Bw Y Y Y ?_) | (show DL _ _ _ _ _ _ _; refine Be ?_; first | show AW _ _ _ _ _ _ | show ∃ x', _ < _ ∧ _) | (show AW _ _ (.region _ _ true) _ _ _; refine Ay mix (by kernel_rfl) ?_; intro O1) | fail)
    exact By (Bn rfl Bl) (.refl _) rfl
  have h1 := law_apart (l := l) (by omega)
  by_cases hap : (l.map (·.id)).Nodup
  case neg =>
    rw [decide_eq_false hap] at h1
    refine Bq (N := 108) (rs := [.tmp 4]) hG Try.func6 rfl rfl rfl rfl rfl ?_
    repeat' (first
    | ((first | (show AL _ _ _ _ _ _ _ _; refine Ah Y ?_) | (show DL _ _ _ _ _ _ _; refine' A5 Y Y (fun K kk => ?_) ?_; try (show Go.Ts.T; rotate_left))); (first
      | (show AOp _ _ ⟨_, .move _, _, _, _, _⟩ _ _ _; refine Ar hG Y Y ?_)
      | (show AOp _ _ ⟨_, .assign _, _, _, _, _⟩ _ _ _; refine A4 hG Y Y ?_)
      | (show AOp _ _ ⟨_, .call ⟨.builtin .len, _, _⟩, _, _, _, _⟩ _ _ _; first | refine Bk hG Y Y Y Y ?_ | refine Bv hG Y Y Y Y Y ?_)
      | (show AOp _ _ ⟨_, .binOp .add _ _ _ _, _, _, _, _⟩ _ _ _; first | refine Ac hG Y Y Y Y Y (by omega) ?_ | refine Ac (m := 1) hG Y Y Y Y Y (by omega) ?_ | refine Aa hG Y Y Y Y Y (by omega) ?_)
      | (show AOp _ _ ⟨_, .binOp .sub _ _ _ _, _, _, _, _⟩ _ _ _; first | refine Ai hG Y Y Y Y (by omega) ?_ | refine Ai (m := 1) hG Y Y Y Y (by omega) ?_ | refine B6 (m := 1) hG Y Y Y Y (by omega) ?_ | refine Aa hG Y Y Y Y Y (by omega) ?_)
      | (show AOp _ _ ⟨_, .binOp .rem _ _ _ _, _, _, _, _⟩ _ _ _; first | refine r_rem hG Y Y Y Y (by omega) ?_ | refine r_trem hG Y Y Y Y (by omega) ?_)
      | (show AOp _ _ ⟨_, .binOp _ _ _ _ _, _, _, _, _⟩ _ _ _; first | refine Au hG Y Y Y Y Y (by omega) ?_ | refine Av hG Y Y Y Y Y (by omega) ?_ | ((fail_if_success have := kk); refine Al hG Y Y Y Y Y (fun h => ?_) (fun h => ?_)))
      | (show AOp _ _ ⟨_, .load _ _, _, _, _, _⟩ _ _ _; first | refine Ao (α := UInt16) 0 hG Y Y Y Y (by omega) Y ?_ | refine Ao (α := UInt16) 1 hG Y Y Y Y (by omega) Y ?_ | refine Az hG Y Y Y ?_ | refine Bf 0 hG Y Y Y Y ?_)
      | (show AOp _ _ ⟨_, .indexAddr _ _ _, _, _, _, _⟩ _ _ _; first | refine A3 hG Y Y Y Y Y Y Y (by omega) ?_ | refine A1 hG Y Y Y Y Y Y Y (by omega) ?_ | refine A0 hG Y Y Y Y Y Y Y (by omega) ?_ | refine Ba hG Y Y ?_)
      | (show AOp _ _ ⟨_, .convert _ _ _, _, _, _, _⟩ _ _ _; first | refine r_cv8 hG Y Y Y Y Y Y ?_ | refine B4 hG Y Y Y Y Y (by omega) ?_ | refine r_cvw hG Y Y Y Y Y ?_)
      | (show AOp _ _ ⟨_, .pick _ _ _, _, _, _, _⟩ _ _ _; refine A6 hG Y Y Y ?_)
      | (show AOp _ _ ⟨_, .unOp _ _ _, _, _, _, _⟩ _ _ _; refine Bo hG Y Y Y ?_)
      | (show AOp _ _ ⟨_, .buildSlice _ _ _, _, _, _, _⟩ _ _ _; first | refine r_mk (sz := 13) hG Y Y Y Y Y Y Y ?_)
      | (show AOp _ _ ⟨_, .call ⟨.builtin .append, _, _⟩, _, _, _, _⟩ _ _ _; first | refine Bm (sz := 1) (xs := []) hG Y Y Y Y Y Y Y ⟨_, Y⟩ Y Y Y Y Y Y Y (by first | omega | (simp; omega)) (fun k => ?_) | refine Bt 0 hG Y Y Y Y Y Y Y ⟨_, Y⟩ Y Y Y Y Y (by first | omega | (simp only [List.length_append, List.length_cons, List.length_nil]; omega)) (fun k => ?_) | fail)
      | (show AOp _ _ ⟨_, .call ⟨.value _, _, _⟩, _, _, _, _⟩ _ _ _; first | refine Br Y Y Y Y Y (by first | (apply h0 <;> (first | assumption | omega | exact A7 _ _ | exact Bg _ | exact Bd _ _ | exact Bj _ | rfl | (simp; omega))) | fail) ?_ | refine Br Y Y Y Y Y (by first | (apply h1 <;> (first | assumption | omega | exact A7 _ _ | exact Bg _ | exact Bd _ _ | exact Bj _ | rfl | (simp; omega))) | fail) ?_ | fail)
      | refine r_q hG Y Y Y ?_); try exact kk)
    | (show AL _ _ _ _ _ _ _ _; first | refine Bi Y Y Y ?_ | (refine At ?_; first | show AW _ _ _ _ _ _ | show ∃ x', _ < _ ∧ _)) | (show AW _ _ (.seq _ _) _ _ _; refine Ak ?_; intro Q1) | (show AW _ _ (.region _ _ false) _ _ _; refine Ad ?_; intro O1) | (show AW _ _ (.cond _ _ _) _ _ _; first | refine Ap Y ?_ | refine Aq Y ?_ | refine Bc Y (fun h => ?_) (fun h => ?_)) | (show AW _ _ (.skip) _ _ _; refine Aj ?_; first | show AW _ _ _ _ _ _ | show ∃ x', _ < _ ∧ _) | (show AW _ _ (.block _ _) _ _ _; refine Af ?_; intro Q1) | (show AW _ _ (.exit _) _ _ _; refine Am ?_; first | show AW _ _ _ _ _ _ | show ∃ x', _ < _ ∧ _) | (show AW _ _ (.ret) _ _ _; refine Ax ?_; try dsimp only [Aw, Ab, A2, Ag])
    | (show DL _ _ _ _ _ _ _; refine Bx Y Y (fun K kt kf => Al hG Y Y Y Y Y kt kf) (fun h => ?_) (fun h => ?_))
    | (show DL _ _ _ _ _ _ _; refine Bw Y Y Y ?_) | (show DL _ _ _ _ _ _ _; refine Be ?_; first | show AW _ _ _ _ _ _ | show ∃ x', _ < _ ∧ _) | (show AW _ _ (.region _ _ true) _ _ _; refine Ay mix (by kernel_rfl) ?_; intro O1) | fail)
    exact By (Bn rfl Bl) (.refl _) rfl
  rw [decide_eq_true hap] at h1
  obtain ⟨r, hre⟩ : ∃ r, reachL l = r := ⟨_, rfl⟩
  have hr := reachO (own := .no) (l := l) (R := r) (by omega) hre
  have hrl := reachL_len (l := l) (by omega)
  have hrt := reachL_lt l
  have hah : ∀ i, i < r.length → r.getD i default = 1 ∨ ∃ k, k < i ∧ r.getD k default = parN (r.getD i default) := fun i hi => by
    have := reach_ahead l (i := i) (by rwa [hre])
    rwa [hre] at this
  rw [hre] at hrl hrt
  refine Bq (N := 108) (rs := [.tmp 4]) hG Try.func6 rfl rfl rfl rfl rfl ?_
  repeat' (first
    | ((first | (show AL _ _ _ _ _ _ _ _; refine Ah Y ?_) | (show DL _ _ _ _ _ _ _; refine' A5 Y Y (fun K kk => ?_) ?_; try (show Go.Ts.T; rotate_left))); (first
      | (show AOp _ _ ⟨_, .move _, _, _, _, _⟩ _ _ _; refine Ar hG Y Y ?_)
      | (show AOp _ _ ⟨_, .assign _, _, _, _, _⟩ _ _ _; refine A4 hG Y Y ?_)
      | (show AOp _ _ ⟨_, .call ⟨.builtin .len, _, _⟩, _, _, _, _⟩ _ _ _; first | refine Bk hG Y Y Y Y ?_ | refine Bv hG Y Y Y Y Y ?_)
      | (show AOp _ _ ⟨_, .binOp .add _ _ _ _, _, _, _, _⟩ _ _ _; first | refine Ac hG Y Y Y Y Y (by omega) ?_ | refine Ac (m := 1) hG Y Y Y Y Y (by omega) ?_ | refine Aa hG Y Y Y Y Y (by omega) ?_)
      | (show AOp _ _ ⟨_, .binOp .sub _ _ _ _, _, _, _, _⟩ _ _ _; first | refine Ai hG Y Y Y Y (by omega) ?_ | refine Ai (m := 1) hG Y Y Y Y (by omega) ?_ | refine B6 (m := 1) hG Y Y Y Y (by omega) ?_ | refine Aa hG Y Y Y Y Y (by omega) ?_)
      | (show AOp _ _ ⟨_, .binOp .rem _ _ _ _, _, _, _, _⟩ _ _ _; first | refine r_rem hG Y Y Y Y (by omega) ?_ | refine r_trem hG Y Y Y Y (by omega) ?_)
      | (show AOp _ _ ⟨_, .binOp _ _ _ _ _, _, _, _, _⟩ _ _ _; first | refine Au hG Y Y Y Y Y (by omega) ?_ | refine Av hG Y Y Y Y Y (by omega) ?_ | ((fail_if_success have := kk); refine Al hG Y Y Y Y Y (fun h => ?_) (fun h => ?_)))
      | (show AOp _ _ ⟨_, .load _ _, _, _, _, _⟩ _ _ _; first | refine Ao (α := UInt16) 0 hG Y Y Y Y (by omega) Y ?_ | refine Ao (α := UInt16) 1 hG Y Y Y Y (by omega) Y ?_ | refine Az hG Y Y Y ?_ | refine Bf 0 hG Y Y Y Y ?_)
      | (show AOp _ _ ⟨_, .indexAddr _ _ _, _, _, _, _⟩ _ _ _; first | refine A3 hG Y Y Y Y Y Y Y (by omega) ?_ | refine A1 hG Y Y Y Y Y Y Y (by omega) ?_ | refine A0 hG Y Y Y Y Y Y Y (by omega) ?_ | refine Ba hG Y Y ?_)
      | (show AOp _ _ ⟨_, .convert _ _ _, _, _, _, _⟩ _ _ _; first | refine r_cv8 hG Y Y Y Y Y Y ?_ | refine B4 hG Y Y Y Y Y (by omega) ?_ | refine r_cvw hG Y Y Y Y Y ?_)
      | (show AOp _ _ ⟨_, .pick _ _ _, _, _, _, _⟩ _ _ _; refine A6 hG Y Y Y ?_)
      | (show AOp _ _ ⟨_, .unOp _ _ _, _, _, _, _⟩ _ _ _; refine Bo hG Y Y Y ?_)
      | (show AOp _ _ ⟨_, .buildSlice _ _ _, _, _, _, _⟩ _ _ _; first | refine r_mk (sz := 13) hG Y Y Y Y Y Y Y ?_)
      | (show AOp _ _ ⟨_, .call ⟨.builtin .append, _, _⟩, _, _, _, _⟩ _ _ _; first | refine Bm (sz := 1) (xs := []) hG Y Y Y Y Y Y Y ⟨_, Y⟩ Y Y Y Y Y Y Y (by first | omega | (simp; omega)) (fun k => ?_) | refine Bt 0 hG Y Y Y Y Y Y Y ⟨_, Y⟩ Y Y Y Y Y (by first | omega | (simp only [List.length_append, List.length_cons, List.length_nil]; omega)) (fun k => ?_) | fail)
      | (show AOp _ _ ⟨_, .call ⟨.value _, _, _⟩, _, _, _, _⟩ _ _ _; first | refine Br Y Y Y Y Y (by first | (apply h0 <;> (first | assumption | omega | exact A7 _ _ | exact Bg _ | exact Bd _ _ | exact Bj _ | rfl | (simp; omega))) | fail) ?_ | refine Br Y Y Y Y Y (by first | (apply h1 <;> (first | assumption | omega | exact A7 _ _ | exact Bg _ | exact Bd _ _ | exact Bj _ | rfl | (simp; omega))) | fail) ?_ | refine Br Y Y Y Y Y (by first | (apply hr <;> (first | assumption | omega | exact A7 _ _ | exact Bg _ | exact Bd _ _ | exact Bj _ | rfl | (simp; omega))) | fail) ?_ | fail)
      | refine r_q hG Y Y Y ?_); try exact kk)
    | (show AL _ _ _ _ _ _ _ _; first | refine Bi Y Y Y ?_ | (refine At ?_; first | show AW _ _ _ _ _ _ | show ∃ x', _ < _ ∧ _)) | (show AW _ _ (.seq _ _) _ _ _; refine Ak ?_; intro Q1) | (show AW _ _ (.region _ _ false) _ _ _; refine Ad ?_; intro O1) | (show AW _ _ (.cond _ _ _) _ _ _; first | refine Ap Y ?_ | refine Aq Y ?_ | refine Bc Y (fun h => ?_) (fun h => ?_)) | (show AW _ _ (.skip) _ _ _; refine Aj ?_; first | show AW _ _ _ _ _ _ | show ∃ x', _ < _ ∧ _) | (show AW _ _ (.block _ _) _ _ _; refine Af ?_; intro Q1) | (show AW _ _ (.exit _) _ _ _; refine Am ?_; first | show AW _ _ _ _ _ _ | show ∃ x', _ < _ ∧ _) | (show AW _ _ (.ret) _ _ _; refine Ax ?_; try dsimp only [Aw, Ab, A2, Ag])
    | (show DL _ _ _ _ _ _ _; refine Bx Y Y (fun K kt kf => Al hG Y Y Y Y Y kt kf) (fun h => ?_) (fun h => ?_))
    | (show DL _ _ _ _ _ _ _; refine Bw Y Y Y ?_) | (show DL _ _ _ _ _ _ _; refine Be ?_; first | show AW _ _ _ _ _ _ | show ∃ x', _ < _ ∧ _) | (show AW _ _ (.region _ _ true) _ _ _; refine Ay mix (by kernel_rfl) ?_; intro O1) | fail)
  refine aw_loop (X := DoX r) (fun x => [(0, .sl 13 .no (l.map oT)), (1, bT n), (5, .sl 1 .no (r.map mT)), (6, .int .i64 (x.i : Int))]) (fun x => ⟨[], [], off, none⟩) (fun x => r.length - x.i) ⟨0, Nat.zero_le _⟩ (by repeat (first | exact .nil _ | refine .cons rfl ?_)) (.refl _) ?_
  rintro ⟨i, hi⟩
  dsimp only
  by_cases hil : i < r.length
  · have hii : r.getD i default < 18446744073709551616 := hrt _ (by simp [List.getD, hil])
    have hpar := ref_Parent hii
    have hai := hah i hil
    by_cases he1 : ((r.getD i default : Nat) : Int) = 1
    · have he0 : r.getD i default = 1 := by omega
      repeat' (first
    | ((first | (show AL _ _ _ _ _ _ _ _; refine Ah Y ?_) | (show DL _ _ _ _ _ _ _; refine' A5 Y Y (fun K kk => ?_) ?_; try (show Go.Ts.T; rotate_left))); (first
      | (show AOp _ _ ⟨_, .move _, _, _, _, _⟩ _ _ _; refine Ar hG Y Y ?_)
      | (show AOp _ _ ⟨_, .assign _, _, _, _, _⟩ _ _ _; refine A4 hG Y Y ?_)
      | (show AOp _ _ ⟨_, .call ⟨.builtin .len, _, _⟩, _, _, _, _⟩ _ _ _; first | refine Bk hG Y Y Y Y ?_ | refine Bv hG Y Y Y Y Y ?_)
      | (show AOp _ _ ⟨_, .binOp .add _ _ _ _, _, _, _, _⟩ _ _ _; first | refine Ac hG Y Y Y Y Y (by omega) ?_ | refine Ac (m := 1) hG Y Y Y Y Y (by omega) ?_ | refine Aa hG Y Y Y Y Y (by omega) ?_)
      | (show AOp _ _ ⟨_, .binOp .sub _ _ _ _, _, _, _, _⟩ _ _ _; first | refine Ai hG Y Y Y Y (by omega) ?_ | refine Ai (m := 1) hG Y Y Y Y (by omega) ?_ | refine B6 (m := 1) hG Y Y Y Y (by omega) ?_ | refine Aa hG Y Y Y Y Y (by omega) ?_)
      | (show AOp _ _ ⟨_, .binOp .rem _ _ _ _, _, _, _, _⟩ _ _ _; first | refine r_rem hG Y Y Y Y (by omega) ?_ | refine r_trem hG Y Y Y Y (by omega) ?_)
      | (show AOp _ _ ⟨_, .binOp _ _ _ _ _, _, _, _, _⟩ _ _ _; first | refine Au hG Y Y Y Y Y (by omega) ?_ | refine Av hG Y Y Y Y Y (by omega) ?_ | ((fail_if_success have := kk); refine Al hG Y Y Y Y Y (fun h => ?_) (fun h => ?_)))
      | (show AOp _ _ ⟨_, .load _ _, _, _, _, _⟩ _ _ _; first | refine Ao (α := UInt16) 0 hG Y Y Y Y (by omega) Y ?_ | refine Ao (α := UInt16) 1 hG Y Y Y Y (by omega) Y ?_ | refine Az hG Y Y Y ?_ | refine Bf 0 hG Y Y Y Y ?_)
      | (show AOp _ _ ⟨_, .indexAddr _ _ _, _, _, _, _⟩ _ _ _; first | refine A3 hG Y Y Y Y Y Y Y (by omega) ?_ | refine A1 hG Y Y Y Y Y Y Y (by omega) ?_ | refine A0 hG Y Y Y Y Y Y Y (by omega) ?_ | refine Ba hG Y Y ?_)
      | (show AOp _ _ ⟨_, .convert _ _ _, _, _, _, _⟩ _ _ _; first | refine r_cv8 hG Y Y Y Y Y Y ?_ | refine B4 hG Y Y Y Y Y (by omega) ?_ | refine r_cvw hG Y Y Y Y Y ?_)
      | (show AOp _ _ ⟨_, .pick _ _ _, _, _, _, _⟩ _ _ _; refine A6 hG Y Y Y ?_)
      | (show AOp _ _ ⟨_, .unOp _ _ _, _, _, _, _⟩ _ _ _; refine Bo hG Y Y Y ?_)
      | (show AOp _ _ ⟨_, .buildSlice _ _ _, _, _, _, _⟩ _ _ _; first | refine r_mk (sz := 13) hG Y Y Y Y Y Y Y ?_)
      | (show AOp _ _ ⟨_, .call ⟨.builtin .append, _, _⟩, _, _, _, _⟩ _ _ _; first | refine Bm (sz := 1) (xs := []) hG Y Y Y Y Y Y Y ⟨_, Y⟩ Y Y Y Y Y Y Y (by first | omega | (simp; omega)) (fun k => ?_) | refine Bt 0 hG Y Y Y Y Y Y Y ⟨_, Y⟩ Y Y Y Y Y (by first | omega | (simp only [List.length_append, List.length_cons, List.length_nil]; omega)) (fun k => ?_) | fail)
      | (show AOp _ _ ⟨_, .call ⟨.value _, _, _⟩, _, _, _, _⟩ _ _ _; first | refine Br Y Y Y Y Y (by first | (apply hpar <;> (first | assumption | omega | exact A7 _ _ | exact Bg _ | exact Bd _ _ | exact Bj _ | rfl | (simp; omega))) | fail) ?_ | fail)
      | refine r_q hG Y Y Y ?_); try exact kk)
    | (show AL _ _ _ _ _ _ _ _; first | refine Bi Y Y Y ?_ | (refine At ?_; first | show AW _ _ _ _ _ _ | show ∃ x', _ < _ ∧ _)) | (show AW _ _ (.seq _ _) _ _ _; refine Ak ?_; intro Q1) | (show AW _ _ (.region _ _ false) _ _ _; refine Ad ?_; intro O1) | (show AW _ _ (.cond _ _ _) _ _ _; first | refine Ap Y ?_ | refine Aq Y ?_ | refine Bc Y (fun h => ?_) (fun h => ?_)) | (show AW _ _ (.skip) _ _ _; refine Aj ?_; first | show AW _ _ _ _ _ _ | show ∃ x', _ < _ ∧ _) | (show AW _ _ (.block _ _) _ _ _; refine Af ?_; intro Q1) | (show AW _ _ (.exit _) _ _ _; refine Am ?_; first | show AW _ _ _ _ _ _ | show ∃ x', _ < _ ∧ _) | (show AW _ _ (.ret) _ _ _; refine Ax ?_; try dsimp only [Aw, Ab, A2, Ag])
    | (show DL _ _ _ _ _ _ _; refine Bx Y Y (fun K kt kf => Al hG Y Y Y Y Y kt kf) (fun h => ?_) (fun h => ?_))
    | (show DL _ _ _ _ _ _ _; refine Bw Y Y Y ?_) | (show DL _ _ _ _ _ _ _; refine Be ?_; first | show AW _ _ _ _ _ _ | show ∃ x', _ < _ ∧ _) | (show AW _ _ (.region _ _ true) _ _ _; refine Ay mix (by kernel_rfl) ?_; intro O1) | fail)
      refine aw_loop (X := DoY r i) (fun x => [(0, .sl 13 .no (l.map oT)), (1, bT n), (5, .sl 1 .no (r.map mT)), (6, .int .i64 (i : Int)), (7, mT (parN (r.getD i default))), (8, .bool x.b), (9, .int .i64 (x.k : Int))]) (fun x => ⟨[], [], off, none⟩) (fun x => i - x.k) ⟨0, true, Nat.zero_le _, by rw [decide_eq_true he0]; rfl⟩ (by repeat (first | exact .nil _ | refine .cons rfl ?_)) (.refl _) ?_
      rintro ⟨k, b, hk, hb⟩
      dsimp only
      by_cases hki : k < i
      · have hs := mem_take_succ (r := r) (m := k) (id := parN (r.getD i default)) (by omega)
        have hb2 : (decide (r.getD i default = 1) || decide (parN (r.getD i default) ∈ r.take (k + 1))) = (b || decide (r.getD k default = parN (r.getD i default))) := by rw [hs, ← Bool.or_assoc, ← hb]
        cases b with
        | true =>
          repeat' (first
    | ((first | (show AL _ _ _ _ _ _ _ _; refine Ah Y ?_) | (show DL _ _ _ _ _ _ _; refine' A5 Y Y (fun K kk => ?_) ?_; try (show Go.Ts.T; rotate_left))); (first
      | (show AOp _ _ ⟨_, .move _, _, _, _, _⟩ _ _ _; refine Ar hG Y Y ?_)
      | (show AOp _ _ ⟨_, .assign _, _, _, _, _⟩ _ _ _; refine A4 hG Y Y ?_)
      | (show AOp _ _ ⟨_, .call ⟨.builtin .len, _, _⟩, _, _, _, _⟩ _ _ _; first | refine Bk hG Y Y Y Y ?_ | refine Bv hG Y Y Y Y Y ?_)
      | (show AOp _ _ ⟨_, .binOp .add _ _ _ _, _, _, _, _⟩ _ _ _; first | refine Ac hG Y Y Y Y Y (by omega) ?_ | refine Ac (m := 1) hG Y Y Y Y Y (by omega) ?_ | refine Aa hG Y Y Y Y Y (by omega) ?_)
      | (show AOp _ _ ⟨_, .binOp .sub _ _ _ _, _, _, _, _⟩ _ _ _; first | refine Ai hG Y Y Y Y (by omega) ?_ | refine Ai (m := 1) hG Y Y Y Y (by omega) ?_ | refine B6 (m := 1) hG Y Y Y Y (by omega) ?_ | refine Aa hG Y Y Y Y Y (by omega) ?_)
      | (show AOp _ _ ⟨_, .binOp .rem _ _ _ _, _, _, _, _⟩ _ _ _; first | refine r_rem hG Y Y Y Y (by omega) ?_ | refine r_trem hG Y Y Y Y (by omega) ?_)
      | (show AOp _ _ ⟨_, .binOp _ _ _ _ _, _, _, _, _⟩ _ _ _; first | refine Au hG Y Y Y Y Y (by omega) ?_ | refine Av hG Y Y Y Y Y (by omega) ?_ | ((fail_if_success have := kk); refine Al hG Y Y Y Y Y (fun h => ?_) (fun h => ?_)))
      | (show AOp _ _ ⟨_, .load _ _, _, _, _, _⟩ _ _ _; first | refine Ao (α := UInt16) 0 hG Y Y Y Y (by omega) Y ?_ | refine Ao (α := UInt16) 1 hG Y Y Y Y (by omega) Y ?_ | refine Az hG Y Y Y ?_ | refine Bf 0 hG Y Y Y Y ?_)
      | (show AOp _ _ ⟨_, .indexAddr _ _ _, _, _, _, _⟩ _ _ _; first | refine A3 hG Y Y Y Y Y Y Y (by omega) ?_ | refine A1 hG Y Y Y Y Y Y Y (by omega) ?_ | refine A0 hG Y Y Y Y Y Y Y (by omega) ?_ | refine Ba hG Y Y ?_)
      | (show AOp _ _ ⟨_, .convert _ _ _, _, _, _, _⟩ _ _ _; first | refine r_cv8 hG Y Y Y Y Y Y ?_ | refine B4 hG Y Y Y Y Y (by omega) ?_ | refine r_cvw hG Y Y Y Y Y ?_)
      | (show AOp _ _ ⟨_, .pick _ _ _, _, _, _, _⟩ _ _ _; refine A6 hG Y Y Y ?_)
      | (show AOp _ _ ⟨_, .unOp _ _ _, _, _, _, _⟩ _ _ _; refine Bo hG Y Y Y ?_)
      | (show AOp _ _ ⟨_, .buildSlice _ _ _, _, _, _, _⟩ _ _ _; first | refine r_mk (sz := 13) hG Y Y Y Y Y Y Y ?_)
      | (show AOp _ _ ⟨_, .call ⟨.builtin .append, _, _⟩, _, _, _, _⟩ _ _ _; first | refine Bm (sz := 1) (xs := []) hG Y Y Y Y Y Y Y ⟨_, Y⟩ Y Y Y Y Y Y Y (by first | omega | (simp; omega)) (fun k => ?_) | refine Bt 0 hG Y Y Y Y Y Y Y ⟨_, Y⟩ Y Y Y Y Y (by first | omega | (simp only [List.length_append, List.length_cons, List.length_nil]; omega)) (fun k => ?_) | fail)
      | refine r_q hG Y Y Y ?_); try exact kk)
    | (show AL _ _ _ _ _ _ _ _; first | refine Bi Y Y Y ?_ | (refine At ?_; first | show AW _ _ _ _ _ _ | show ∃ x', _ < _ ∧ _)) | (show AW _ _ (.seq _ _) _ _ _; refine Ak ?_; intro Q1) | (show AW _ _ (.region _ _ false) _ _ _; refine Ad ?_; intro O1) | (show AW _ _ (.cond _ _ _) _ _ _; first | refine Ap Y ?_ | refine Aq Y ?_ | refine Bc Y (fun h => ?_) (fun h => ?_)) | (show AW _ _ (.skip) _ _ _; refine Aj ?_; first | show AW _ _ _ _ _ _ | show ∃ x', _ < _ ∧ _) | (show AW _ _ (.block _ _) _ _ _; refine Af ?_; intro Q1) | (show AW _ _ (.exit _) _ _ _; refine Am ?_; first | show AW _ _ _ _ _ _ | show ∃ x', _ < _ ∧ _) | (show AW _ _ (.ret) _ _ _; refine Ax ?_; try dsimp only [Aw, Ab, A2, Ag])
    | (show DL _ _ _ _ _ _ _; refine Bx Y Y (fun K kt kf => Al hG Y Y Y Y Y kt kf) (fun h => ?_) (fun h => ?_))
    | (show DL _ _ _ _ _ _ _; refine Bw Y Y Y ?_) | (show DL _ _ _ _ _ _ _; refine Be ?_; first | show AW _ _ _ _ _ _ | show ∃ x', _ < _ ∧ _) | (show AW _ _ (.region _ _ true) _ _ _; refine Ay mix (by kernel_rfl) ?_; intro O1) | fail)
          exact ⟨⟨k + 1, true, by omega, hb2.symm⟩, by dsimp only; omega, (by repeat (first | exact .nil _ | refine .cons rfl ?_)), .refl _⟩
        | false =>
          by_cases he : ((r.getD k default : Nat) : Int) = ((parN (r.getD i default) : Nat) : Int)
          · have he2 : r.getD k default = parN (r.getD i default) := by omega
            rw [decide_eq_true he2] at hb2
            repeat' (first
    | ((first | (show AL _ _ _ _ _ _ _ _; refine Ah Y ?_) | (show DL _ _ _ _ _ _ _; refine' A5 Y Y (fun K kk => ?_) ?_; try (show Go.Ts.T; rotate_left))); (first
      | (show AOp _ _ ⟨_, .move _, _, _, _, _⟩ _ _ _; refine Ar hG Y Y ?_)
      | (show AOp _ _ ⟨_, .assign _, _, _, _, _⟩ _ _ _; refine A4 hG Y Y ?_)
      | (show AOp _ _ ⟨_, .call ⟨.builtin .len, _, _⟩, _, _, _, _⟩ _ _ _; first | refine Bk hG Y Y Y Y ?_ | refine Bv hG Y Y Y Y Y ?_)
      | (show AOp _ _ ⟨_, .binOp .add _ _ _ _, _, _, _, _⟩ _ _ _; first | refine Ac hG Y Y Y Y Y (by omega) ?_ | refine Ac (m := 1) hG Y Y Y Y Y (by omega) ?_ | refine Aa hG Y Y Y Y Y (by omega) ?_)
      | (show AOp _ _ ⟨_, .binOp .sub _ _ _ _, _, _, _, _⟩ _ _ _; first | refine Ai hG Y Y Y Y (by omega) ?_ | refine Ai (m := 1) hG Y Y Y Y (by omega) ?_ | refine B6 (m := 1) hG Y Y Y Y (by omega) ?_ | refine Aa hG Y Y Y Y Y (by omega) ?_)
      | (show AOp _ _ ⟨_, .binOp .rem _ _ _ _, _, _, _, _⟩ _ _ _; first | refine r_rem hG Y Y Y Y (by omega) ?_ | refine r_trem hG Y Y Y Y (by omega) ?_)
      | (show AOp _ _ ⟨_, .binOp _ _ _ _ _, _, _, _, _⟩ _ _ _; first | refine Au hG Y Y Y Y Y (by omega) ?_ | refine Av hG Y Y Y Y Y (by omega) ?_ | ((fail_if_success have := kk); refine Al hG Y Y Y Y Y (fun h => ?_) (fun h => ?_)))
      | (show AOp _ _ ⟨_, .load _ _, _, _, _, _⟩ _ _ _; first | refine Ao (α := UInt16) 0 hG Y Y Y Y (by omega) Y ?_ | refine Ao (α := UInt16) 1 hG Y Y Y Y (by omega) Y ?_ | refine Az hG Y Y Y ?_ | refine Bf 0 hG Y Y Y Y ?_)
      | (show AOp _ _ ⟨_, .indexAddr _ _ _, _, _, _, _⟩ _ _ _; first | refine A3 hG Y Y Y Y Y Y Y (by omega) ?_ | refine A1 hG Y Y Y Y Y Y Y (by omega) ?_ | refine A0 hG Y Y Y Y Y Y Y (by omega) ?_ | refine Ba hG Y Y ?_)
      | (show AOp _ _ ⟨_, .convert _ _ _, _, _, _, _⟩ _ _ _; first | refine r_cv8 hG Y Y Y Y Y Y ?_ | refine B4 hG Y Y Y Y Y (by omega) ?_ | refine r_cvw hG Y Y Y Y Y ?_)
      | (show AOp _ _ ⟨_, .pick _ _ _, _, _, _, _⟩ _ _ _; refine A6 hG Y Y Y ?_)
      | (show AOp _ _ ⟨_, .unOp _ _ _, _, _, _, _⟩ _ _ _; refine Bo hG Y Y Y ?_)
      | (show AOp _ _ ⟨_, .buildSlice _ _ _, _, _, _, _⟩ _ _ _; first | refine r_mk (sz := 13) hG Y Y Y Y Y Y Y ?_)
      | (show AOp _ _ ⟨_, .call ⟨.builtin .append, _, _⟩, _, _, _, _⟩ _ _ _; first | refine Bm (sz := 1) (xs := []) hG Y Y Y Y Y Y Y ⟨_, Y⟩ Y Y Y Y Y Y Y (by first | omega | (simp; omega)) (fun k => ?_) | refine Bt 0 hG Y Y Y Y Y Y Y ⟨_, Y⟩ Y Y Y Y Y (by first | omega | (simp only [List.length_append, List.length_cons, List.length_nil]; omega)) (fun k => ?_) | fail)
      | refine r_q hG Y Y Y ?_); try exact kk)
    | (show AL _ _ _ _ _ _ _ _; first | refine Bi Y Y Y ?_ | (refine At ?_; first | show AW _ _ _ _ _ _ | show ∃ x', _ < _ ∧ _)) | (show AW _ _ (.seq _ _) _ _ _; refine Ak ?_; intro Q1) | (show AW _ _ (.region _ _ false) _ _ _; refine Ad ?_; intro O1) | (show AW _ _ (.cond _ _ _) _ _ _; first | refine Ap Y ?_ | refine Aq Y ?_ | refine Bc Y (fun h => ?_) (fun h => ?_)) | (show AW _ _ (.skip) _ _ _; refine Aj ?_; first | show AW _ _ _ _ _ _ | show ∃ x', _ < _ ∧ _) | (show AW _ _ (.block _ _) _ _ _; refine Af ?_; intro Q1) | (show AW _ _ (.exit _) _ _ _; refine Am ?_; first | show AW _ _ _ _ _ _ | show ∃ x', _ < _ ∧ _) | (show AW _ _ (.ret) _ _ _; refine Ax ?_; try dsimp only [Aw, Ab, A2, Ag])
    | (show DL _ _ _ _ _ _ _; refine Bx Y Y (fun K kt kf => Al hG Y Y Y Y Y kt kf) (fun h => ?_) (fun h => ?_))
    | (show DL _ _ _ _ _ _ _; refine Bw Y Y Y ?_) | (show DL _ _ _ _ _ _ _; refine Be ?_; first | show AW _ _ _ _ _ _ | show ∃ x', _ < _ ∧ _) | (show AW _ _ (.region _ _ true) _ _ _; refine Ay mix (by kernel_rfl) ?_; intro O1) | fail)
            exact ⟨⟨k + 1, true, by omega, hb2.symm⟩, by dsimp only; omega, (by repeat (first | exact .nil _ | refine .cons rfl ?_)), .refl _⟩
          · have he2 : ¬ r.getD k default = parN (r.getD i default) := by omega
            rw [decide_eq_false he2] at hb2
            repeat' (first
    | ((first | (show AL _ _ _ _ _ _ _ _; refine Ah Y ?_) | (show DL _ _ _ _ _ _ _; refine' A5 Y Y (fun K kk => ?_) ?_; try (show Go.Ts.T; rotate_left))); (first
      | (show AOp _ _ ⟨_, .move _, _, _, _, _⟩ _ _ _; refine Ar hG Y Y ?_)
      | (show AOp _ _ ⟨_, .assign _, _, _, _, _⟩ _ _ _; refine A4 hG Y Y ?_)
      | (show AOp _ _ ⟨_, .call ⟨.builtin .len, _, _⟩, _, _, _, _⟩ _ _ _; first | refine Bk hG Y Y Y Y ?_ | refine Bv hG Y Y Y Y Y ?_)
      | (show AOp _ _ ⟨_, .binOp .add _ _ _ _, _, _, _, _⟩ _ _ _; first | refine Ac hG Y Y Y Y Y (by omega) ?_ | refine Ac (m := 1) hG Y Y Y Y Y (by omega) ?_ | refine Aa hG Y Y Y Y Y (by omega) ?_)
      | (show AOp _ _ ⟨_, .binOp .sub _ _ _ _, _, _, _, _⟩ _ _ _; first | refine Ai hG Y Y Y Y (by omega) ?_ | refine Ai (m := 1) hG Y Y Y Y (by omega) ?_ | refine B6 (m := 1) hG Y Y Y Y (by omega) ?_ | refine Aa hG Y Y Y Y Y (by omega) ?_)
      | (show AOp _ _ ⟨_, .binOp .rem _ _ _ _, _, _, _, _⟩ _ _ _; first | refine r_rem hG Y Y Y Y (by omega) ?_ | refine r_trem hG Y Y Y Y (by omega) ?_)
      | (show AOp _ _ ⟨_, .binOp _ _ _ _ _, _, _, _, _⟩ _ _ _; first | refine Au hG Y Y Y Y Y (by omega) ?_ | refine Av hG Y Y Y Y Y (by omega) ?_ | ((fail_if_success have := kk); refine Al hG Y Y Y Y Y (fun h => ?_) (fun h => ?_)))
      | (show AOp _ _ ⟨_, .load _ _, _, _, _, _⟩ _ _ _; first | refine Ao (α := UInt16) 0 hG Y Y Y Y (by omega) Y ?_ | refine Ao (α := UInt16) 1 hG Y Y Y Y (by omega) Y ?_ | refine Az hG Y Y Y ?_ | refine Bf 0 hG Y Y Y Y ?_)
      | (show AOp _ _ ⟨_, .indexAddr _ _ _, _, _, _, _⟩ _ _ _; first | refine A3 hG Y Y Y Y Y Y Y (by omega) ?_ | refine A1 hG Y Y Y Y Y Y Y (by omega) ?_ | refine A0 hG Y Y Y Y Y Y Y (by omega) ?_ | refine Ba hG Y Y ?_)
      | (show AOp _ _ ⟨_, .convert _ _ _, _, _, _, _⟩ _ _ _; first | refine r_cv8 hG Y Y Y Y Y Y ?_ | refine B4 hG Y Y Y Y Y (by omega) ?_ | refine r_cvw hG Y Y Y Y Y ?_)
      | (show AOp _ _ ⟨_, .pick _ _ _, _, _, _, _⟩ _ _ _; refine A6 hG Y Y Y ?_)
      | (show AOp _ _ ⟨_, .unOp _ _ _, _, _, _, _⟩ _ _ _; refine Bo hG Y Y Y ?_)
      | (show AOp _ _ ⟨_, .buildSlice _ _ _, _, _, _, _⟩ _ _ _; first | refine r_mk (sz := 13) hG Y Y Y Y Y Y Y ?_)
      | (show AOp _ _ ⟨_, .call ⟨.builtin .append, _, _⟩, _, _, _, _⟩ _ _ _; first | refine Bm (sz := 1) (xs := []) hG Y Y Y Y Y Y Y ⟨_, Y⟩ Y Y Y Y Y Y Y (by first | omega | (simp; omega)) (fun k => ?_) | refine Bt 0 hG Y Y Y Y Y Y Y ⟨_, Y⟩ Y Y Y Y Y (by first | omega | (simp only [List.length_append, List.length_cons, List.length_nil]; omega)) (fun k => ?_) | fail)
      | refine r_q hG Y Y Y ?_); try exact kk)
    | (show AL _ _ _ _ _ _ _ _; first | refine Bi Y Y Y ?_ | (refine At ?_; first | show AW _ _ _ _ _ _ | show ∃ x', _ < _ ∧ _)) | (show AW _ _ (.seq _ _) _ _ _; refine Ak ?_; intro Q1) | (show AW _ _ (.region _ _ false) _ _ _; refine Ad ?_; intro O1) | (show AW _ _ (.cond _ _ _) _ _ _; first | refine Ap Y ?_ | refine Aq Y ?_ | refine Bc Y (fun h => ?_) (fun h => ?_)) | (show AW _ _ (.skip) _ _ _; refine Aj ?_; first | show AW _ _ _ _ _ _ | show ∃ x', _ < _ ∧ _) | (show AW _ _ (.block _ _) _ _ _; refine Af ?_; intro Q1) | (show AW _ _ (.exit _) _ _ _; refine Am ?_; first | show AW _ _ _ _ _ _ | show ∃ x', _ < _ ∧ _) | (show AW _ _ (.ret) _ _ _; refine Ax ?_; try dsimp only [Aw, Ab, A2, Ag])
    | (show DL _ _ _ _ _ _ _; refine Bx Y Y (fun K kt kf => Al hG Y Y Y Y Y kt kf) (fun h => ?_) (fun h => ?_))
    | (show DL _ _ _ _ _ _ _; refine Bw Y Y Y ?_) | (show DL _ _ _ _ _ _ _; refine Be ?_; first | show AW _ _ _ _ _ _ | show ∃ x', _ < _ ∧ _) | (show AW _ _ (.region _ _ true) _ _ _; refine Ay mix (by kernel_rfl) ?_; intro O1) | fail)
            exact ⟨⟨k + 1, false, by omega, hb2.symm⟩, by dsimp only; omega, (by repeat (first | exact .nil _ | refine .cons rfl ?_)), .refl _⟩
      · obtain rfl : k = i := by omega
        have hbt : b = true := by
          rw [hb, Bool.or_eq_true, decide_eq_true_eq, decide_eq_true_eq]
          rcases hai with h | ⟨j, h3, h4⟩
          · exact .inl h
          · refine .inr (List.mem_iff_getElem.2 ⟨j, by rw [List.length_take]; omega, ?_⟩)
            rw [List.getElem_take, ← h4]
            simp [List.getD, show j < r.length by omega]
        subst hbt
        repeat' (first
    | ((first | (show AL _ _ _ _ _ _ _ _; refine Ah Y ?_) | (show DL _ _ _ _ _ _ _; refine' A5 Y Y (fun K kk => ?_) ?_; try (show Go.Ts.T; rotate_left))); (first
      | (show AOp _ _ ⟨_, .move _, _, _, _, _⟩ _ _ _; refine Ar hG Y Y ?_)
      | (show AOp _ _ ⟨_, .assign _, _, _, _, _⟩ _ _ _; refine A4 hG Y Y ?_)
      | (show AOp _ _ ⟨_, .call ⟨.builtin .len, _, _⟩, _, _, _, _⟩ _ _ _; first | refine Bk hG Y Y Y Y ?_ | refine Bv hG Y Y Y Y Y ?_)
      | (show AOp _ _ ⟨_, .binOp .add _ _ _ _, _, _, _, _⟩ _ _ _; first | refine Ac hG Y Y Y Y Y (by omega) ?_ | refine Ac (m := 1) hG Y Y Y Y Y (by omega) ?_ | refine Aa hG Y Y Y Y Y (by omega) ?_)
      | (show AOp _ _ ⟨_, .binOp .sub _ _ _ _, _, _, _, _⟩ _ _ _; first | refine Ai hG Y Y Y Y (by omega) ?_ | refine Ai (m := 1) hG Y Y Y Y (by omega) ?_ | refine B6 (m := 1) hG Y Y Y Y (by omega) ?_ | refine Aa hG Y Y Y Y Y (by omega) ?_)
      | (show AOp _ _ ⟨_, .binOp .rem _ _ _ _, _, _, _, _⟩ _ _ _; first | refine r_rem hG Y Y Y Y (by omega) ?_ | refine r_trem hG Y Y Y Y (by omega) ?_)
      | (show AOp _ _ ⟨_, .binOp _ _ _ _ _, _, _, _, _⟩ _ _ _; first | refine Au hG Y Y Y Y Y (by omega) ?_ | refine Av hG Y Y Y Y Y (by omega) ?_ | ((fail_if_success have := kk); refine Al hG Y Y Y Y Y (fun h => ?_) (fun h => ?_)))
      | (show AOp _ _ ⟨_, .load _ _, _, _, _, _⟩ _ _ _; first | refine Ao (α := UInt16) 0 hG Y Y Y Y (by omega) Y ?_ | refine Ao (α := UInt16) 1 hG Y Y Y Y (by omega) Y ?_ | refine Az hG Y Y Y ?_ | refine Bf 0 hG Y Y Y Y ?_)
      | (show AOp _ _ ⟨_, .indexAddr _ _ _, _, _, _, _⟩ _ _ _; first | refine A3 hG Y Y Y Y Y Y Y (by omega) ?_ | refine A1 hG Y Y Y Y Y Y Y (by omega) ?_ | refine A0 hG Y Y Y Y Y Y Y (by omega) ?_ | refine Ba hG Y Y ?_)
      | (show AOp _ _ ⟨_, .convert _ _ _, _, _, _, _⟩ _ _ _; first | refine r_cv8 hG Y Y Y Y Y Y ?_ | refine B4 hG Y Y Y Y Y (by omega) ?_ | refine r_cvw hG Y Y Y Y Y ?_)
      | (show AOp _ _ ⟨_, .pick _ _ _, _, _, _, _⟩ _ _ _; refine A6 hG Y Y Y ?_)
      | (show AOp _ _ ⟨_, .unOp _ _ _, _, _, _, _⟩ _ _ _; refine Bo hG Y Y Y ?_)
      | (show AOp _ _ ⟨_, .buildSlice _ _ _, _, _, _, _⟩ _ _ _; first | refine r_mk (sz := 13) hG Y Y Y Y Y Y Y ?_)
      | (show AOp _ _ ⟨_, .call ⟨.builtin .append, _, _⟩, _, _, _, _⟩ _ _ _; first | refine Bm (sz := 1) (xs := []) hG Y Y Y Y Y Y Y ⟨_, Y⟩ Y Y Y Y Y Y Y (by first | omega | (simp; omega)) (fun k => ?_) | refine Bt 0 hG Y Y Y Y Y Y Y ⟨_, Y⟩ Y Y Y Y Y (by first | omega | (simp only [List.length_append, List.length_cons, List.length_nil]; omega)) (fun k => ?_) | fail)
      | refine r_q hG Y Y Y ?_); try exact kk)
    | (show AL _ _ _ _ _ _ _ _; first | refine Bi Y Y Y ?_ | (refine At ?_; first | show AW _ _ _ _ _ _ | show ∃ x', _ < _ ∧ _)) | (show AW _ _ (.seq _ _) _ _ _; refine Ak ?_; intro Q1) | (show AW _ _ (.region _ _ false) _ _ _; refine Ad ?_; intro O1) | (show AW _ _ (.cond _ _ _) _ _ _; first | refine Ap Y ?_ | refine Aq Y ?_ | refine Bc Y (fun h => ?_) (fun h => ?_)) | (show AW _ _ (.skip) _ _ _; refine Aj ?_; first | show AW _ _ _ _ _ _ | show ∃ x', _ < _ ∧ _) | (show AW _ _ (.block _ _) _ _ _; refine Af ?_; intro Q1) | (show AW _ _ (.exit _) _ _ _; refine Am ?_; first | show AW _ _ _ _ _ _ | show ∃ x', _ < _ ∧ _) | (show AW _ _ (.ret) _ _ _; refine Ax ?_; try dsimp only [Aw, Ab, A2, Ag])
    | (show DL _ _ _ _ _ _ _; refine Bx Y Y (fun K kt kf => Al hG Y Y Y Y Y kt kf) (fun h => ?_) (fun h => ?_))
    | (show DL _ _ _ _ _ _ _; refine Bw Y Y Y ?_) | (show DL _ _ _ _ _ _ _; refine Be ?_; first | show AW _ _ _ _ _ _ | show ∃ x', _ < _ ∧ _) | (show AW _ _ (.region _ _ true) _ _ _; refine Ay mix (by kernel_rfl) ?_; intro O1) | fail)
        exact ⟨⟨k + 1, by omega⟩, by dsimp only; omega, (by repeat (first | exact .nil _ | refine .cons rfl ?_)), .refl _⟩
    · have he0 : ¬ r.getD i default = 1 := by omega
      repeat' (first
    | ((first | (show AL _ _ _ _ _ _ _ _; refine Ah Y ?_) | (show DL _ _ _ _ _ _ _; refine' A5 Y Y (fun K kk => ?_) ?_; try (show Go.Ts.T; rotate_left))); (first
      | (show AOp _ _ ⟨_, .move _, _, _, _, _⟩ _ _ _; refine Ar hG Y Y ?_)
      | (show AOp _ _ ⟨_, .assign _, _, _, _, _⟩ _ _ _; refine A4 hG Y Y ?_)
      | (show AOp _ _ ⟨_, .call ⟨.builtin .len, _, _⟩, _, _, _, _⟩ _ _ _; first | refine Bk hG Y Y Y Y ?_ | refine Bv hG Y Y Y Y Y ?_)
      | (show AOp _ _ ⟨_, .binOp .add _ _ _ _, _, _, _, _⟩ _ _ _; first | refine Ac hG Y Y Y Y Y (by omega) ?_ | refine Ac (m := 1) hG Y Y Y Y Y (by omega) ?_ | refine Aa hG Y Y Y Y Y (by omega) ?_)
      | (show AOp _ _ ⟨_, .binOp .sub _ _ _ _, _, _, _, _⟩ _ _ _; first | refine Ai hG Y Y Y Y (by omega) ?_ | refine Ai (m := 1) hG Y Y Y Y (by omega) ?_ | refine B6 (m := 1) hG Y Y Y Y (by omega) ?_ | refine Aa hG Y Y Y Y Y (by omega) ?_)
      | (show AOp _ _ ⟨_, .binOp .rem _ _ _ _, _, _, _, _⟩ _ _ _; first | refine r_rem hG Y Y Y Y (by omega) ?_ | refine r_trem hG Y Y Y Y (by omega) ?_)
      | (show AOp _ _ ⟨_, .binOp _ _ _ _ _, _, _, _, _⟩ _ _ _; first | refine Au hG Y Y Y Y Y (by omega) ?_ | refine Av hG Y Y Y Y Y (by omega) ?_ | ((fail_if_success have := kk); refine Al hG Y Y Y Y Y (fun h => ?_) (fun h => ?_)))
      | (show AOp _ _ ⟨_, .load _ _, _, _, _, _⟩ _ _ _; first | refine Ao (α := UInt16) 0 hG Y Y Y Y (by omega) Y ?_ | refine Ao (α := UInt16) 1 hG Y Y Y Y (by omega) Y ?_ | refine Az hG Y Y Y ?_ | refine Bf 0 hG Y Y Y Y ?_)
      | (show AOp _ _ ⟨_, .indexAddr _ _ _, _, _, _, _⟩ _ _ _; first | refine A3 hG Y Y Y Y Y Y Y (by omega) ?_ | refine A1 hG Y Y Y Y Y Y Y (by omega) ?_ | refine A0 hG Y Y Y Y Y Y Y (by omega) ?_ | refine Ba hG Y Y ?_)
      | (show AOp _ _ ⟨_, .convert _ _ _, _, _, _, _⟩ _ _ _; first | refine r_cv8 hG Y Y Y Y Y Y ?_ | refine B4 hG Y Y Y Y Y (by omega) ?_ | refine r_cvw hG Y Y Y Y Y ?_)
      | (show AOp _ _ ⟨_, .pick _ _ _, _, _, _, _⟩ _ _ _; refine A6 hG Y Y Y ?_)
      | (show AOp _ _ ⟨_, .unOp _ _ _, _, _, _, _⟩ _ _ _; refine Bo hG Y Y Y ?_)
      | (show AOp _ _ ⟨_, .buildSlice _ _ _, _, _, _, _⟩ _ _ _; first | refine r_mk (sz := 13) hG Y Y Y Y Y Y Y ?_)
      | (show AOp _ _ ⟨_, .call ⟨.builtin .append, _, _⟩, _, _, _, _⟩ _ _ _; first | refine Bm (sz := 1) (xs := []) hG Y Y Y Y Y Y Y ⟨_, Y⟩ Y Y Y Y Y Y Y (by first | omega | (simp; omega)) (fun k => ?_) | refine Bt 0 hG Y Y Y Y Y Y Y ⟨_, Y⟩ Y Y Y Y Y (by first | omega | (simp only [List.length_append, List.length_cons, List.length_nil]; omega)) (fun k => ?_) | fail)
      | (show AOp _ _ ⟨_, .call ⟨.value _, _, _⟩, _, _, _, _⟩ _ _ _; first | refine Br Y Y Y Y Y (by first | (apply hpar <;> (first | assumption | omega | exact A7 _ _ | exact Bg _ | exact Bd _ _ | exact Bj _ | rfl | (simp; omega))) | fail) ?_ | fail)
      | refine r_q hG Y Y Y ?_); try exact kk)
    | (show AL _ _ _ _ _ _ _ _; first | refine Bi Y Y Y ?_ | (refine At ?_; first | show AW _ _ _ _ _ _ | show ∃ x', _ < _ ∧ _)) | (show AW _ _ (.seq _ _) _ _ _; refine Ak ?_; intro Q1) | (show AW _ _ (.region _ _ false) _ _ _; refine Ad ?_; intro O1) | (show AW _ _ (.cond _ _ _) _ _ _; first | refine Ap Y ?_ | refine Aq Y ?_ | refine Bc Y (fun h => ?_) (fun h => ?_)) | (show AW _ _ (.skip) _ _ _; refine Aj ?_; first | show AW _ _ _ _ _ _ | show ∃ x', _ < _ ∧ _) | (show AW _ _ (.block _ _) _ _ _; refine Af ?_; intro Q1) | (show AW _ _ (.exit _) _ _ _; refine Am ?_; first | show AW _ _ _ _ _ _ | show ∃ x', _ < _ ∧ _) | (show AW _ _ (.ret) _ _ _; refine Ax ?_; try dsimp only [Aw, Ab, A2, Ag])
    | (show DL _ _ _ _ _ _ _; refine Bx Y Y (fun K kt kf => Al hG Y Y Y Y Y kt kf) (fun h => ?_) (fun h => ?_))
    | (show DL _ _ _ _ _ _ _; refine Bw Y Y Y ?_) | (show DL _ _ _ _ _ _ _; refine Be ?_; first | show AW _ _ _ _ _ _ | show ∃ x', _ < _ ∧ _) | (show AW _ _ (.region _ _ true) _ _ _; refine Ay mix (by kernel_rfl) ?_; intro O1) | fail)
      refine aw_loop (X := DoY r i) (fun x => [(0, .sl 13 .no (l.map oT)), (1, bT n), (5, .sl 1 .no (r.map mT)), (6, .int .i64 (i : Int)), (7, mT (parN (r.getD i default))), (8, .bool x.b), (9, .int .i64 (x.k : Int))]) (fun x => ⟨[], [], off, none⟩) (fun x => i - x.k) ⟨0, false, Nat.zero_le _, by rw [decide_eq_false he0]; simp⟩ (by repeat (first | exact .nil _ | refine .cons rfl ?_)) (.refl _) ?_
      rintro ⟨k, b, hk, hb⟩
      dsimp only
      by_cases hki : k < i
      · have hs := mem_take_succ (r := r) (m := k) (id := parN (r.getD i default)) (by omega)
        have hb2 : (decide (r.getD i default = 1) || decide (parN (r.getD i default) ∈ r.take (k + 1))) = (b || decide (r.getD k default = parN (r.getD i default))) := by rw [hs, ← Bool.or_assoc, ← hb]
        cases b with
        | true =>
          repeat' (first
    | ((first | (show AL _ _ _ _ _ _ _ _; refine Ah Y ?_) | (show DL _ _ _ _ _ _ _; refine' A5 Y Y (fun K kk => ?_) ?_; try (show Go.Ts.T; rotate_left))); (first
      | (show AOp _ _ ⟨_, .move _, _, _, _, _⟩ _ _ _; refine Ar hG Y Y ?_)
      | (show AOp _ _ ⟨_, .assign _, _, _, _, _⟩ _ _ _; refine A4 hG Y Y ?_)
      | (show AOp _ _ ⟨_, .call ⟨.builtin .len, _, _⟩, _, _, _, _⟩ _ _ _; first | refine Bk hG Y Y Y Y ?_ | refine Bv hG Y Y Y Y Y ?_)
      | (show AOp _ _ ⟨_, .binOp .add _ _ _ _, _, _, _, _⟩ _ _ _; first | refine Ac hG Y Y Y Y Y (by omega) ?_ | refine Ac (m := 1) hG Y Y Y Y Y (by omega) ?_ | refine Aa hG Y Y Y Y Y (by omega) ?_)
      | (show AOp _ _ ⟨_, .binOp .sub _ _ _ _, _, _, _, _⟩ _ _ _; first | refine Ai hG Y Y Y Y (by omega) ?_ | refine Ai (m := 1) hG Y Y Y Y (by omega) ?_ | refine B6 (m := 1) hG Y Y Y Y (by omega) ?_ | refine Aa hG Y Y Y Y Y (by omega) ?_)
      | (show AOp _ _ ⟨_, .binOp .rem _ _ _ _, _, _, _, _⟩ _ _ _; first | refine r_rem hG Y Y Y Y (by omega) ?_ | refine r_trem hG Y Y Y Y (by omega) ?_)
      | (show AOp _ _ ⟨_, .binOp _ _ _ _ _, _, _, _, _⟩ _ _ _; first | refine Au hG Y Y Y Y Y (by omega) ?_ | refine Av hG Y Y Y Y Y (by omega) ?_ | ((fail_if_success have := kk); refine Al hG Y Y Y Y Y (fun h => ?_) (fun h => ?_)))
      | (show AOp _ _ ⟨_, .load _ _, _, _, _, _⟩ _ _ _; first | refine Ao (α := UInt16) 0 hG Y Y Y Y (by omega) Y ?_ | refine Ao (α := UInt16) 1 hG Y Y Y Y (by omega) Y ?_ | refine Az hG Y Y Y ?_ | refine Bf 0 hG Y Y Y Y ?_)
      | (show AOp _ _ ⟨_, .indexAddr _ _ _, _, _, _, _⟩ _ _ _; first | refine A3 hG Y Y Y Y Y Y Y (by omega) ?_ | refine A1 hG Y Y Y Y Y Y Y (by omega) ?_ | refine A0 hG Y Y Y Y Y Y Y (by omega) ?_ | refine Ba hG Y Y ?_)
      | (show AOp _ _ ⟨_, .convert _ _ _, _, _, _, _⟩ _ _ _; first | refine r_cv8 hG Y Y Y Y Y Y ?_ | refine B4 hG Y Y Y Y Y (by omega) ?_ | refine r_cvw hG Y Y Y Y Y ?_)
      | (show AOp _ _ ⟨_, .pick _ _ _, _, _, _, _⟩ _ _ _; refine A6 hG Y Y Y ?_)
      | (show AOp _ _ ⟨_, .unOp _ _ _, _, _, _, _⟩ _ _ _; refine Bo hG Y Y Y ?_)
      | (show AOp _ _ ⟨_, .buildSlice _ _ _, _, _, _, _⟩ _ _ _; first | refine r_mk (sz := 13) hG Y Y Y Y Y Y Y ?_)
      | (show AOp _ _ ⟨_, .call ⟨.builtin .append, _, _⟩, _, _, _, _⟩ _ _ _; first | refine Bm (sz := 1) (xs := []) hG Y Y Y Y Y Y Y ⟨_, Y⟩ Y Y Y Y Y Y Y (by first | omega | (simp; omega)) (fun k => ?_) | refine Bt 0 hG Y Y Y Y Y Y Y ⟨_, Y⟩ Y Y Y Y Y (by first | omega | (simp only [List.length_append, List.length_cons, List.length_nil]; omega)) (fun k => ?_) | fail)
      | refine r_q hG Y Y Y ?_); try exact kk)
    | (show AL _ _ _ _ _ _ _ _; first | refine Bi Y Y Y ?_ | (refine At ?_; first | show AW _ _ _ _ _ _ | show ∃ x', _ < _ ∧ _)) | (show AW _ _ (.seq _ _) _ _ _; refine Ak ?_; intro Q1) | (show AW _ _ (.region _ _ false) _ _ _; refine Ad ?_; intro O1) | (show AW _ _ (.cond _ _ _) _ _ _; first | refine Ap Y ?_ | refine Aq Y ?_ | refine Bc Y (fun h => ?_) (fun h => ?_)) | (show AW _ _ (.skip) _ _ _; refine Aj ?_; first | show AW _ _ _ _ _ _ | show ∃ x', _ < _ ∧ _) | (show AW _ _ (.block _ _) _ _ _; refine Af ?_; intro Q1) | (show AW _ _ (.exit _) _ _ _; refine Am ?_; first | show AW _ _ _ _ _ _ | show ∃ x', _ < _ ∧ _) | (show AW _ _ (.ret) _ _ _; refine Ax ?_; try dsimp only [Aw, Ab, A2, Ag])
    | (show DL _ _ _ _ _ _ _; refine Bx Y Y (fun K kt kf => Al hG Y Y Y Y Y kt kf) (fun h => ?_) (fun h => ?_))
    | (show DL _ _ _ _ _ _ _; refine Bw Y Y Y ?_) | (show DL _ _ _ _ _ _ _; refine Be ?_; first | show AW _ _ _ _ _ _ | show ∃ x', _ < _ ∧ _) | (show AW _ _ (.region _ _ true) _ _ _; refine Ay mix (by kernel_rfl) ?_; intro O1) | fail)
          exact ⟨⟨k + 1, true, by omega, hb2.symm⟩, by dsimp only; omega, (by repeat (first | exact .nil _ | refine .cons rfl ?_)), .refl _⟩
        | false =>
          by_cases he : ((r.getD k default : Nat) : Int) = ((parN (r.getD i default) : Nat) : Int)
          · have he2 : r.getD k default = parN (r.getD i default) := by omega
            rw [decide_eq_true he2] at hb2
            repeat' (first
    | ((first | (show AL _ _ _ _ _ _ _ _; refine Ah Y ?_) | (show DL _ _ _ _ _ _ _; refine' A5 Y Y (fun K kk => ?_) ?_; try (show Go.Ts.T; rotate_left))); (first
      | (show AOp _ _ ⟨_, .move _, _, _, _, _⟩ _ _ _; refine Ar hG Y Y ?_)
      | (show AOp _ _ ⟨_, .assign _, _, _, _, _⟩ _ _ _; refine A4 hG Y Y ?_)
      | (show AOp _ _ ⟨_, .call ⟨.builtin .len, _, _⟩, _, _, _, _⟩ _ _ _; first | refine Bk hG Y Y Y Y ?_ | refine Bv hG Y Y Y Y Y ?_)
      | (show AOp _ _ ⟨_, .binOp .add _ _ _ _, _, _, _, _⟩ _ _ _; first | refine Ac hG Y Y Y Y Y (by omega) ?_ | refine Ac (m := 1) hG Y Y Y Y Y (by omega) ?_ | refine Aa hG Y Y Y Y Y (by omega) ?_)
      | (show AOp _ _ ⟨_, .binOp .sub _ _ _ _, _, _, _, _⟩ _ _ _; first | refine Ai hG Y Y Y Y (by omega) ?_ | refine Ai (m := 1) hG Y Y Y Y (by omega) ?_ | refine B6 (m := 1) hG Y Y Y Y (by omega) ?_ | refine Aa hG Y Y Y Y Y (by omega) ?_)
      | (show AOp _ _ ⟨_, .binOp .rem _ _ _ _, _, _, _, _⟩ _ _ _; first | refine r_rem hG Y Y Y Y (by omega) ?_ | refine r_trem hG Y Y Y Y (by omega) ?_)
      | (show AOp _ _ ⟨_, .binOp _ _ _ _ _, _, _, _, _⟩ _ _ _; first | refine Au hG Y Y Y Y Y (by omega) ?_ | refine Av hG Y Y Y Y Y (by omega) ?_ | ((fail_if_success have := kk); refine Al hG Y Y Y Y Y (fun h => ?_) (fun h => ?_)))
      | (show AOp _ _ ⟨_, .load _ _, _, _, _, _⟩ _ _ _; first | refine Ao (α := UInt16) 0 hG Y Y Y Y (by omega) Y ?_ | refine Ao (α := UInt16) 1 hG Y Y Y Y (by omega) Y ?_ | refine Az hG Y Y Y ?_ | refine Bf 0 hG Y Y Y Y ?_)
      | (show AOp _ _ ⟨_, .indexAddr _ _ _, _, _, _, _⟩ _ _ _; first | refine A3 hG Y Y Y Y Y Y Y (by omega) ?_ | refine A1 hG Y Y Y Y Y Y Y (by omega) ?_ | refine A0 hG Y Y Y Y Y Y Y (by omega) ?_ | refine Ba hG Y Y ?_)
      | (show AOp _ _ ⟨_, .convert _ _ _, _, _, _, _⟩ _ _ _; first | refine r_cv8 hG Y Y Y Y Y Y ?_ | refine B4 hG Y Y Y Y Y (by omega) ?_ | refine r_cvw hG Y Y Y Y Y ?_)
      | (show AOp _ _ ⟨_, .pick _ _ _, _, _, _, _⟩ _ _ _; refine A6 hG Y Y Y ?_)
      | (show AOp _ _ ⟨_, .unOp _ _ _, _, _, _, _⟩ _ _ _; refine Bo hG Y Y Y ?_)
      | (show AOp _ _ ⟨_, .buildSlice _ _ _, _, _, _, _⟩ _ _ _; first | refine r_mk (sz := 13) hG Y Y Y Y Y Y Y ?_)
      | (show AOp _ _ ⟨_, .call ⟨.builtin .append, _, _⟩, _, _, _, _⟩ _ _ _; first | refine Bm (sz := 1) (xs := []) hG Y Y Y Y Y Y Y ⟨_, Y⟩ Y Y Y Y Y Y Y (by first | omega | (simp; omega)) (fun k => ?_) | refine Bt 0 hG Y Y Y Y Y Y Y ⟨_, Y⟩ Y Y Y Y Y (by first | omega | (simp only [List.length_append, List.length_cons, List.length_nil]; omega)) (fun k => ?_) | fail)
      | refine r_q hG Y Y Y ?_); try exact kk)
    | (show AL _ _ _ _ _ _ _ _; first | refine Bi Y Y Y ?_ | (refine At ?_; first | show AW _ _ _ _ _ _ | show ∃ x', _ < _ ∧ _)) | (show AW _ _ (.seq _ _) _ _ _; refine Ak ?_; intro Q1) | (show AW _ _ (.region _ _ false) _ _ _; refine Ad ?_; intro O1) | (show AW _ _ (.cond _ _ _) _ _ _; first | refine Ap Y ?_ | refine Aq Y ?_ | refine Bc Y (fun h => ?_) (fun h => ?_)) | (show AW _ _ (.skip) _ _ _; refine Aj ?_; first | show AW _ _ _ _ _ _ | show ∃ x', _ < _ ∧ _) | (show AW _ _ (.block _ _) _ _ _; refine Af ?_; intro Q1) | (show AW _ _ (.exit _) _ _ _; refine Am ?_; first | show AW _ _ _ _ _ _ | show ∃ x', _ < _ ∧ _) | (show AW _ _ (.ret) _ _ _; refine Ax ?_; try dsimp only [Aw, Ab, A2, Ag])
    | (show DL _ _ _ _ _ _ _; refine Bx Y Y (fun K kt kf => Al hG Y Y Y Y Y kt kf) (fun h => ?_) (fun h => ?_))
    | (show DL _ _ _ _ _ _ _; refine Bw Y Y Y ?_) | (show DL _ _ _ _ _ _ _; refine Be ?_; first | show AW _ _ _ _ _ _ | show ∃ x', _ < _ ∧ _) | (show AW _ _ (.region _ _ true) _ _ _; refine Ay mix (by kernel_rfl) ?_; intro O1) | fail)
            exact ⟨⟨k + 1, true, by omega, hb2.symm⟩, by dsimp only; omega, (by repeat (first | exact .nil _ | refine .cons rfl ?_)), .refl _⟩
          · have he2 : ¬ r.getD k default = parN (r.getD i default) := by omega
            rw [decide_eq_false he2] at hb2
            repeat' (first
    | ((first | (show AL _ _ _ _ _ _ _ _; refine Ah Y ?_) | (show DL _ _ _ _ _ _ _; refine' A5 Y Y (fun K kk => ?_) ?_; try (show Go.Ts.T; rotate_left))); (first
      | (show AOp _ _ ⟨_, .move _, _, _, _, _⟩ _ _ _; refine Ar hG Y Y ?_)
      | (show AOp _ _ ⟨_, .assign _, _, _, _, _⟩ _ _ _; refine A4 hG Y Y ?_)
      | (show AOp _ _ ⟨_, .call ⟨.builtin .len, _, _⟩, _, _, _, _⟩ _ _ _; first | refine Bk hG Y Y Y Y ?_ | refine Bv hG Y Y Y Y Y ?_)
      | (show AOp _ _ ⟨_, .binOp .add _ _ _ _, _, _, _, _⟩ _ _ _; first | refine Ac hG Y Y Y Y Y (by omega) ?_ | refine Ac (m := 1) hG Y Y Y Y Y (by omega) ?_ | refine Aa hG Y Y Y Y Y (by omega) ?_)
      | (show AOp _ _ ⟨_, .binOp .sub _ _ _ _, _, _, _, _⟩ _ _ _; first | refine Ai hG Y Y Y Y (by omega) ?_ | refine Ai (m := 1) hG Y Y Y Y (by omega) ?_ | refine B6 (m := 1) hG Y Y Y Y (by omega) ?_ | refine Aa hG Y Y Y Y Y (by omega) ?_)
      | (show AOp _ _ ⟨_, .binOp .rem _ _ _ _, _, _, _, _⟩ _ _ _; first | refine r_rem hG Y Y Y Y (by omega) ?_ | refine r_trem hG Y Y Y Y (by omega) ?_)
      | (show AOp _ _ ⟨_, .binOp _ _ _ _ _, _, _, _, _⟩ _ _ _; first | refine Au hG Y Y Y Y Y (by omega) ?_ | refine Av hG Y Y Y Y Y (by omega) ?_ | ((fail_if_success have := kk); refine Al hG Y Y Y Y Y (fun h => ?_) (fun h => ?_)))
      | (show AOp _ _ ⟨_, .load _ _, _, _, _, _⟩ _ _ _; first | refine Ao (α := UInt16) 0 hG Y Y Y Y (by omega) Y ?_ | refine Ao (α := UInt16) 1 hG Y Y Y Y (by omega) Y ?_ | refine Az hG Y Y Y ?_ | refine Bf 0 hG Y Y Y Y ?_)
      | (show AOp _ _ ⟨_, .indexAddr _ _ _, _, _, _, _⟩ _ _ _; first | refine A3 hG Y Y Y Y Y Y Y (by omega) ?_ | refine A1 hG Y Y Y Y Y Y Y (by omega) ?_ | refine A0 hG Y Y Y Y Y Y Y (by omega) ?_ | refine Ba hG Y Y ?_)
      | (show AOp _ _ ⟨_, .convert _ _ _, _, _, _, _⟩ _ _ _; first | refine r_cv8 hG Y Y Y Y Y Y ?_ | refine B4 hG Y Y Y Y Y (by omega) ?_ | refine r_cvw hG Y Y Y Y Y ?_)
      | (show AOp _ _ ⟨_, .pick _ _ _, _, _, _, _⟩ _ _ _; refine A6 hG Y Y Y ?_)
      | (show AOp _ _ ⟨_, .unOp _ _ _, _, _, _, _⟩ _ _ _; refine Bo hG Y Y Y ?_)
      | (show AOp _ _ ⟨_, .buildSlice _ _ _, _, _, _, _⟩ _ _ _; first | refine r_mk (sz := 13) hG Y Y Y Y Y Y Y ?_)
      | (show AOp _ _ ⟨_, .call ⟨.builtin .append, _, _⟩, _, _, _, _⟩ _ _ _; first | refine Bm (sz := 1) (xs := []) hG Y Y Y Y Y Y Y ⟨_, Y⟩ Y Y Y Y Y Y Y (by first | omega | (simp; omega)) (fun k => ?_) | refine Bt 0 hG Y Y Y Y Y Y Y ⟨_, Y⟩ Y Y Y Y Y (by first | omega | (simp only [List.length_append, List.length_cons, List.length_nil]; omega)) (fun k => ?_) | fail)
      | refine r_q hG Y Y Y ?_); try exact kk)
    | (show AL _ _ _ _ _ _ _ _; first | refine Bi Y Y Y ?_ | (refine At ?_; first | show AW _ _ _ _ _ _ | show ∃ x', _ < _ ∧ _)) | (show AW _ _ (.seq _ _) _ _ _; refine Ak ?_; intro Q1) | (show AW _ _ (.region _ _ false) _ _ _; refine Ad ?_; intro O1) | (show AW _ _ (.cond _ _ _) _ _ _; first | refine Ap Y ?_ | refine Aq Y ?_ | refine Bc Y (fun h => ?_) (fun h => ?_)) | (show AW _ _ (.skip) _ _ _; refine Aj ?_; first | show AW _ _ _ _ _ _ | show ∃ x', _ < _ ∧ _) | (show AW _ _ (.block _ _) _ _ _; refine Af ?_; intro Q1) | (show AW _ _ (.exit _) _ _ _; refine Am ?_; first | show AW _ _ _ _ _ _ | show ∃ x', _ < _ ∧ _) | (show AW _ _ (.ret) _ _ _; refine Ax ?_; try dsimp only [Aw, Ab, A2, Ag])
    | (show DL _ _ _ _ _ _ _; refine Bx Y Y (fun K kt kf => Al hG Y Y Y Y Y kt kf) (fun h => ?_) (fun h => ?_))
    | (show DL _ _ _ _ _ _ _; refine Bw Y Y Y ?_) | (show DL _ _ _ _ _ _ _; refine Be ?_; first | show AW _ _ _ _ _ _ | show ∃ x', _ < _ ∧ _) | (show AW _ _ (.region _ _ true) _ _ _; refine Ay mix (by kernel_rfl) ?_; intro O1) | fail)
            exact ⟨⟨k + 1, false, by omega, hb2.symm⟩, by dsimp only; omega, (by repeat (first | exact .nil _ | refine .cons rfl ?_)), .refl _⟩
      · obtain rfl : k = i := by omega
        have hbt : b = true := by
          rw [hb, Bool.or_eq_true, decide_eq_true_eq, decide_eq_true_eq]
          rcases hai with h | ⟨j, h3, h4⟩
          · exact .inl h
          · refine .inr (List.mem_iff_getElem.2 ⟨j, by rw [List.length_take]; omega, ?_⟩)
            rw [List.getElem_take, ← h4]
            simp [List.getD, show j < r.length by omega]
        subst hbt
        repeat' (first
    | ((first | (show AL _ _ _ _ _ _ _ _; refine Ah Y ?_) | (show DL _ _ _ _ _ _ _; refine' A5 Y Y (fun K kk => ?_) ?_; try (show Go.Ts.T; rotate_left))); (first
      | (show AOp _ _ ⟨_, .move _, _, _, _, _⟩ _ _ _; refine Ar hG Y Y ?_)
      | (show AOp _ _ ⟨_, .assign _, _, _, _, _⟩ _ _ _; refine A4 hG Y Y ?_)
      | (show AOp _ _ ⟨_, .call ⟨.builtin .len, _, _⟩, _, _, _, _⟩ _ _ _; first | refine Bk hG Y Y Y Y ?_ | refine Bv hG Y Y Y Y Y ?_)
      | (show AOp _ _ ⟨_, .binOp .add _ _ _ _, _, _, _, _⟩ _ _ _; first | refine Ac hG Y Y Y Y Y (by omega) ?_ | refine Ac (m := 1) hG Y Y Y Y Y (by omega) ?_ | refine Aa hG Y Y Y Y Y (by omega) ?_)
      | (show AOp _ _ ⟨_, .binOp .sub _ _ _ _, _, _, _, _⟩ _ _ _; first | refine Ai hG Y Y Y Y (by omega) ?_ | refine Ai (m := 1) hG Y Y Y Y (by omega) ?_ | refine B6 (m := 1) hG Y Y Y Y (by omega) ?_ | refine Aa hG Y Y Y Y Y (by omega) ?_)
      | (show AOp _ _ ⟨_, .binOp .rem _ _ _ _, _, _, _, _⟩ _ _ _; first | refine r_rem hG Y Y Y Y (by omega) ?_ | refine r_trem hG Y Y Y Y (by omega) ?_)
      | (show AOp _ _ ⟨_, .binOp _ _ _ _ _, _, _, _, _⟩ _ _ _; first | refine Au hG Y Y Y Y Y (by omega) ?_ | refine Av hG Y Y Y Y Y (by omega) ?_ | ((fail_if_success have := kk); refine Al hG Y Y Y Y Y (fun h => ?_) (fun h => ?_)))
      | (show AOp _ _ ⟨_, .load _ _, _, _, _, _⟩ _ _ _; first | refine Ao (α := UInt16) 0 hG Y Y Y Y (by omega) Y ?_ | refine Ao (α := UInt16) 1 hG Y Y Y Y (by omega) Y ?_ | refine Az hG Y Y Y ?_ | refine Bf 0 hG Y Y Y Y ?_)
      | (show AOp _ _ ⟨_, .indexAddr _ _ _, _, _, _, _⟩ _ _ _; first | refine A3 hG Y Y Y Y Y Y Y (by omega) ?_ | refine A1 hG Y Y Y Y Y Y Y (by omega) ?_ | refine A0 hG Y Y Y Y Y Y Y (by omega) ?_ | refine Ba hG Y Y ?_)
      | (show AOp _ _ ⟨_, .convert _ _ _, _, _, _, _⟩ _ _ _; first | refine r_cv8 hG Y Y Y Y Y Y ?_ | refine B4 hG Y Y Y Y Y (by omega) ?_ | refine r_cvw hG Y Y Y Y Y ?_)
      | (show AOp _ _ ⟨_, .pick _ _ _, _, _, _, _⟩ _ _ _; refine A6 hG Y Y Y ?_)
      | (show AOp _ _ ⟨_, .unOp _ _ _, _, _, _, _⟩ _ _ _; refine Bo hG Y Y Y ?_)
      | (show AOp _ _ ⟨_, .buildSlice _ _ _, _, _, _, _⟩ _ _ _; first | refine r_mk (sz := 13) hG Y Y Y Y Y Y Y ?_)
      | (show AOp _ _ ⟨_, .call ⟨.builtin .append, _, _⟩, _, _, _, _⟩ _ _ _; first | refine Bm (sz := 1) (xs := []) hG Y Y Y Y Y Y Y ⟨_, Y⟩ Y Y Y Y Y Y Y (by first | omega | (simp; omega)) (fun k => ?_) | refine Bt 0 hG Y Y Y Y Y Y Y ⟨_, Y⟩ Y Y Y Y Y (by first | omega | (simp only [List.length_append, List.length_cons, List.length_nil]; omega)) (fun k => ?_) | fail)
      | refine r_q hG Y Y Y ?_); try exact kk)
    | (show AL _ _ _ _ _ _ _ _; first | refine Bi Y Y Y ?_ | (refine At ?_; first | show AW _ _ _ _ _ _ | show ∃ x', _ < _ ∧ _)) | (show AW _ _ (.seq _ _) _ _ _; refine Ak ?_; intro Q1) | (show AW _ _ (.region _ _ false) _ _ _; refine Ad ?_; intro O1) | (show AW _ _ (.cond _ _ _) _ _ _; first | refine Ap Y ?_ | refine Aq Y ?_ | refine Bc Y (fun h => ?_) (fun h => ?_)) | (show AW _ _ (.skip) _ _ _; refine Aj ?_; first | show AW _ _ _ _ _ _ | show ∃ x', _ < _ ∧ _) | (show AW _ _ (.block _ _) _ _ _; refine Af ?_; intro Q1) | (show AW _ _ (.exit _) _ _ _; refine Am ?_; first | show AW _ _ _ _ _ _ | show ∃ x', _ < _ ∧ _) | (show AW _ _ (.ret) _ _ _; refine Ax ?_; try dsimp only [Aw, Ab, A2, Ag])
    | (show DL _ _ _ _ _ _ _; refine Bx Y Y (fun K kt kf => Al hG Y Y Y Y Y kt kf) (fun h => ?_) (fun h => ?_))
    | (show DL _ _ _ _ _ _ _; refine Bw Y Y Y ?_) | (show DL _ _ _ _ _ _ _; refine Be ?_; first | show AW _ _ _ _ _ _ | show ∃ x', _ < _ ∧ _) | (show AW _ _ (.region _ _ true) _ _ _; refine Ay mix (by kernel_rfl) ?_; intro O1) | fail)
        exact ⟨⟨k + 1, by omega⟩, by dsimp only; omega, (by repeat (first | exact .nil _ | refine .cons rfl ?_)), .refl _⟩
  · by_cases hr0 : ((r.length : Nat) : Int) = 0
    · repeat' (first
    | ((first | (show AL _ _ _ _ _ _ _ _; refine Ah Y ?_) | (show DL _ _ _ _ _ _ _; refine' A5 Y Y (fun K kk => ?_) ?_; try (show Go.Ts.T; rotate_left))); (first
      | (show AOp _ _ ⟨_, .move _, _, _, _, _⟩ _ _ _; refine Ar hG Y Y ?_)
      | (show AOp _ _ ⟨_, .assign _, _, _, _, _⟩ _ _ _; refine A4 hG Y Y ?_)
      | (show AOp _ _ ⟨_, .call ⟨.builtin .len, _, _⟩, _, _, _, _⟩ _ _ _; first | refine Bk hG Y Y Y Y ?_ | refine Bv hG Y Y Y Y Y ?_)
      | (show AOp _ _ ⟨_, .binOp .add _ _ _ _, _, _, _, _⟩ _ _ _; first | refine Ac hG Y Y Y Y Y (by omega) ?_ | refine Ac (m := 1) hG Y Y Y Y Y (by omega) ?_ | refine Aa hG Y Y Y Y Y (by omega) ?_)
      | (show AOp _ _ ⟨_, .binOp .sub _ _ _ _, _, _, _, _⟩ _ _ _; first | refine Ai hG Y Y Y Y (by omega) ?_ | refine Ai (m := 1) hG Y Y Y Y (by omega) ?_ | refine B6 (m := 1) hG Y Y Y Y (by omega) ?_ | refine Aa hG Y Y Y Y Y (by omega) ?_)
      | (show AOp _ _ ⟨_, .binOp .rem _ _ _ _, _, _, _, _⟩ _ _ _; first | refine r_rem hG Y Y Y Y (by omega) ?_ | refine r_trem hG Y Y Y Y (by omega) ?_)
      | (show AOp _ _ ⟨_, .binOp _ _ _ _ _, _, _, _, _⟩ _ _ _; first | refine Au hG Y Y Y Y Y (by omega) ?_ | refine Av hG Y Y Y Y Y (by omega) ?_ | ((fail_if_success have := kk); refine Al hG Y Y Y Y Y (fun h => ?_) (fun h => ?_)))
      | (show AOp _ _ ⟨_, .load _ _, _, _, _, _⟩ _ _ _; first | refine Ao (α := UInt16) 0 hG Y Y Y Y (by omega) Y ?_ | refine Ao (α := UInt16) 1 hG Y Y Y Y (by omega) Y ?_ | refine Az hG Y Y Y ?_ | refine Bf 0 hG Y Y Y Y ?_)
      | (show AOp _ _ ⟨_, .indexAddr _ _ _, _, _, _, _⟩ _ _ _; first | refine A3 hG Y Y Y Y Y Y Y (by omega) ?_ | refine A1 hG Y Y Y Y Y Y Y (by omega) ?_ | refine A0 hG Y Y Y Y Y Y Y (by omega) ?_ | refine Ba hG Y Y ?_)
      | (show AOp _ _ ⟨_, .convert _ _ _, _, _, _, _⟩ _ _ _; first | refine r_cv8 hG Y Y Y Y Y Y ?_ | refine B4 hG Y Y Y Y Y (by omega) ?_ | refine r_cvw hG Y Y Y Y Y ?_)
      | (show AOp _ _ ⟨_, .pick _ _ _, _, _, _, _⟩ _ _ _; refine A6 hG Y Y Y ?_)
      | (show AOp _ _ ⟨_, .unOp _ _ _, _, _, _, _⟩ _ _ _; refine Bo hG Y Y Y ?_)
      | (show AOp _ _ ⟨_, .buildSlice _ _ _, _, _, _, _⟩ _ _ _; first | refine r_mk (sz := 13) hG Y Y Y Y Y Y Y ?_)
      | (show AOp _ _ ⟨_, .call ⟨.builtin .append, _, _⟩, _, _, _, _⟩ _ _ _; first | refine Bm (sz := 1) (xs := []) hG Y Y Y Y Y Y Y ⟨_, Y⟩ Y Y Y Y Y Y Y (by first | omega | (simp; omega)) (fun k => ?_) | refine Bt 0 hG Y Y Y Y Y Y Y ⟨_, Y⟩ Y Y Y Y Y (by first | omega | (simp only [List.length_append, List.length_cons, List.length_nil]; omega)) (fun k => ?_) | fail)
      | refine r_q hG Y Y Y ?_); try exact kk)
    | (show AL _ _ _ _ _ _ _ _; first | refine Bi Y Y Y ?_ | (refine At ?_; first | show AW _ _ _ _ _ _ | show ∃ x', _ < _ ∧ _)) | (show AW _ _ (.seq _ _) _ _ _; refine Ak ?_; intro Q1) | (show AW _ _ (.region _ _ false) _ _ _; refine Ad ?_; intro O1) | (show AW _ _ (.cond _ _ _) _ _ _; first | refine Ap Y ?_ | refine Aq Y ?_ | refine Bc Y (fun h => ?_) (fun h => ?_)) | (show AW _ _ (.skip) _ _ _; refine Aj ?_; first | show AW _ _ _ _ _ _ | show ∃ x', _ < _ ∧ _) | (show AW _ _ (.block _ _) _ _ _; refine Af ?_; intro Q1) | (show AW _ _ (.exit _) _ _ _; refine Am ?_; first | show AW _ _ _ _ _ _ | show ∃ x', _ < _ ∧ _) | (show AW _ _ (.ret) _ _ _; refine Ax ?_; try dsimp only [Aw, Ab, A2, Ag])
    | (show DL _ _ _ _ _ _ _; refine Bx Y Y (fun K kt kf => Al hG Y Y Y Y Y kt kf) (fun h => ?_) (fun h => ?_))
    | (show DL _ _ _ _ _ _ _; refine Bw Y Y Y ?_) | (show DL _ _ _ _ _ _ _; refine Be ?_; first | show AW _ _ _ _ _ _ | show ∃ x', _ < _ ∧ _) | (show AW _ _ (.region _ _ true) _ _ _; refine Ay mix (by kernel_rfl) ?_; intro O1) | fail)
      try dsimp (config := { zetaDelta := true }) only [Aw, Ab, A2]
      exact By (Bn rfl Bl) (.refl _) rfl
    · have hq : n.toNat % r.length < r.length := Nat.mod_lt _ (by omega)
      have eq : (n.toNat : Int) % (r.length : Int) = ((n.toNat % r.length : Nat) : Int) := rfl
      repeat' (first
    | ((first | (show AL _ _ _ _ _ _ _ _; refine Ah Y ?_) | (show DL _ _ _ _ _ _ _; refine' A5 Y Y (fun K kk => ?_) ?_; try (show Go.Ts.T; rotate_left))); (first
      | (show AOp _ _ ⟨_, .move _, _, _, _, _⟩ _ _ _; refine Ar hG Y Y ?_)
      | (show AOp _ _ ⟨_, .assign _, _, _, _, _⟩ _ _ _; refine A4 hG Y Y ?_)
      | (show AOp _ _ ⟨_, .call ⟨.builtin .len, _, _⟩, _, _, _, _⟩ _ _ _; first | refine Bk hG Y Y Y Y ?_ | refine Bv hG Y Y Y Y Y ?_)
      | (show AOp _ _ ⟨_, .binOp .add _ _ _ _, _, _, _, _⟩ _ _ _; first | refine Ac hG Y Y Y Y Y (by omega) ?_ | refine Ac (m := 1) hG Y Y Y Y Y (by omega) ?_ | refine Aa hG Y Y Y Y Y (by omega) ?_)
      | (show AOp _ _ ⟨_, .binOp .sub _ _ _ _, _, _, _, _⟩ _ _ _; first | refine Ai hG Y Y Y Y (by omega) ?_ | refine Ai (m := 1) hG Y Y Y Y (by omega) ?_ | refine B6 (m := 1) hG Y Y Y Y (by omega) ?_ | refine Aa hG Y Y Y Y Y (by omega) ?_)
      | (show AOp _ _ ⟨_, .binOp .rem _ _ _ _, _, _, _, _⟩ _ _ _; first | refine r_rem hG Y Y Y Y (by omega) ?_ | refine r_trem hG Y Y Y Y (by omega) ?_)
      | (show AOp _ _ ⟨_, .binOp _ _ _ _ _, _, _, _, _⟩ _ _ _; first | refine Au hG Y Y Y Y Y (by omega) ?_ | refine Av hG Y Y Y Y Y (by omega) ?_ | ((fail_if_success have := kk); refine Al hG Y Y Y Y Y (fun h => ?_) (fun h => ?_)))
      | (show AOp _ _ ⟨_, .load _ _, _, _, _, _⟩ _ _ _; first | refine Ao (α := UInt16) 0 hG Y Y Y Y (by omega) Y ?_ | refine Ao (α := UInt16) 1 hG Y Y Y Y (by omega) Y ?_ | refine Az hG Y Y Y ?_ | refine Bf 0 hG Y Y Y Y ?_)
      | (show AOp _ _ ⟨_, .indexAddr _ _ _, _, _, _, _⟩ _ _ _; fail)
      | (show AOp _ _ ⟨_, .convert _ _ _, _, _, _, _⟩ _ _ _; first | refine r_cv8 hG Y Y Y Y Y Y ?_ | refine B4 hG Y Y Y Y Y (by omega) ?_ | refine r_cvw hG Y Y Y Y Y ?_)
      | (show AOp _ _ ⟨_, .pick _ _ _, _, _, _, _⟩ _ _ _; refine A6 hG Y Y Y ?_)
      | (show AOp _ _ ⟨_, .unOp _ _ _, _, _, _, _⟩ _ _ _; refine Bo hG Y Y Y ?_)
      | (show AOp _ _ ⟨_, .buildSlice _ _ _, _, _, _, _⟩ _ _ _; first | refine r_mk (sz := 13) hG Y Y Y Y Y Y Y ?_)
      | (show AOp _ _ ⟨_, .call ⟨.builtin .append, _, _⟩, _, _, _, _⟩ _ _ _; first | refine Bm (sz := 1) (xs := []) hG Y Y Y Y Y Y Y ⟨_, Y⟩ Y Y Y Y Y Y Y (by first | omega | (simp; omega)) (fun k => ?_) | refine Bt 0 hG Y Y Y Y Y Y Y ⟨_, Y⟩ Y Y Y Y Y (by first | omega | (simp only [List.length_append, List.length_cons, List.length_nil]; omega)) (fun k => ?_) | fail)
      | refine r_q hG Y Y Y ?_); try exact kk)
    | (show AL _ _ _ _ _ _ _ _; first | refine Bi Y Y Y ?_ | (refine At ?_; first | show AW _ _ _ _ _ _ | show ∃ x', _ < _ ∧ _)) | (show AW _ _ (.seq _ _) _ _ _; refine Ak ?_; intro Q1) | (show AW _ _ (.region _ _ false) _ _ _; refine Ad ?_; intro O1) | (show AW _ _ (.cond _ _ _) _ _ _; first | refine Ap Y ?_ | refine Aq Y ?_ | refine Bc Y (fun h => ?_) (fun h => ?_)) | (show AW _ _ (.skip) _ _ _; refine Aj ?_; first | show AW _ _ _ _ _ _ | show ∃ x', _ < _ ∧ _) | (show AW _ _ (.block _ _) _ _ _; refine Af ?_; intro Q1) | (show AW _ _ (.exit _) _ _ _; refine Am ?_; first | show AW _ _ _ _ _ _ | show ∃ x', _ < _ ∧ _) | (show AW _ _ (.ret) _ _ _; refine Ax ?_; try dsimp only [Aw, Ab, A2, Ag])
    | (show DL _ _ _ _ _ _ _; refine Bx Y Y (fun K kt kf => Al hG Y Y Y Y Y kt kf) (fun h => ?_) (fun h => ?_))
    | (show DL _ _ _ _ _ _ _; refine Bw Y Y Y ?_) | (show DL _ _ _ _ _ _ _; refine Be ?_; first | show AW _ _ _ _ _ _ | show ∃ x', _ < _ ∧ _) | (show AW _ _ (.region _ _ true) _ _ _; refine Ay mix (by kernel_rfl) ?_; intro O1) | fail)
      rw [eq]
      generalize n.toNat % r.length = q at *
      repeat' (first
    | ((first | (show AL _ _ _ _ _ _ _ _; refine Ah Y ?_) | (show DL _ _ _ _ _ _ _; refine' A5 Y Y (fun K kk => ?_) ?_; try (show Go.Ts.T; rotate_left))); (first
      | (show AOp _ _ ⟨_, .move _, _, _, _, _⟩ _ _ _; refine Ar hG Y Y ?_)
      | (show AOp _ _ ⟨_, .assign _, _, _, _, _⟩ _ _ _; refine A4 hG Y Y ?_)
      | (show AOp _ _ ⟨_, .call ⟨.builtin .len, _, _⟩, _, _, _, _⟩ _ _ _; first | refine Bk hG Y Y Y Y ?_ | refine Bv hG Y Y Y Y Y ?_)
      | (show AOp _ _ ⟨_, .binOp .add _ _ _ _, _, _, _, _⟩ _ _ _; first | refine Ac hG Y Y Y Y Y (by omega) ?_ | refine Ac (m := 1) hG Y Y Y Y Y (by omega) ?_ | refine Aa hG Y Y Y Y Y (by omega) ?_)
      | (show AOp _ _ ⟨_, .binOp .sub _ _ _ _, _, _, _, _⟩ _ _ _; first | refine Ai hG Y Y Y Y (by omega) ?_ | refine Ai (m := 1) hG Y Y Y Y (by omega) ?_ | refine B6 (m := 1) hG Y Y Y Y (by omega) ?_ | refine Aa hG Y Y Y Y Y (by omega) ?_)
      | (show AOp _ _ ⟨_, .binOp .rem _ _ _ _, _, _, _, _⟩ _ _ _; first | refine r_rem hG Y Y Y Y (by omega) ?_ | refine r_trem hG Y Y Y Y (by omega) ?_)
      | (show AOp _ _ ⟨_, .binOp _ _ _ _ _, _, _, _, _⟩ _ _ _; first | refine Au hG Y Y Y Y Y (by omega) ?_ | refine Av hG Y Y Y Y Y (by omega) ?_ | ((fail_if_success have := kk); refine Al hG Y Y Y Y Y (fun h => ?_) (fun h => ?_)))
      | (show AOp _ _ ⟨_, .load _ _, _, _, _, _⟩ _ _ _; first | refine Ao (α := UInt16) 0 hG Y Y Y Y (by omega) Y ?_ | refine Ao (α := UInt16) 1 hG Y Y Y Y (by omega) Y ?_ | refine Az hG Y Y Y ?_ | refine Bf 0 hG Y Y Y Y ?_)
      | (show AOp _ _ ⟨_, .indexAddr _ _ _, _, _, _, _⟩ _ _ _; first | refine A3 hG Y Y Y Y Y Y Y (by omega) ?_ | refine A1 hG Y Y Y Y Y Y Y (by omega) ?_ | refine A0 hG Y Y Y Y Y Y Y (by omega) ?_ | refine Ba hG Y Y ?_)
      | (show AOp _ _ ⟨_, .convert _ _ _, _, _, _, _⟩ _ _ _; first | refine r_cv8 hG Y Y Y Y Y Y ?_ | refine B4 hG Y Y Y Y Y (by omega) ?_ | refine r_cvw hG Y Y Y Y Y ?_)
      | (show AOp _ _ ⟨_, .pick _ _ _, _, _, _, _⟩ _ _ _; refine A6 hG Y Y Y ?_)
      | (show AOp _ _ ⟨_, .unOp _ _ _, _, _, _, _⟩ _ _ _; refine Bo hG Y Y Y ?_)
      | (show AOp _ _ ⟨_, .buildSlice _ _ _, _, _, _, _⟩ _ _ _; first | refine r_mk (sz := 13) hG Y Y Y Y Y Y Y ?_)
      | (show AOp _ _ ⟨_, .call ⟨.builtin .append, _, _⟩, _, _, _, _⟩ _ _ _; first | refine Bm (sz := 1) (xs := []) hG Y Y Y Y Y Y Y ⟨_, Y⟩ Y Y Y Y Y Y Y (by first | omega | (simp; omega)) (fun k => ?_) | refine Bt 0 hG Y Y Y Y Y Y Y ⟨_, Y⟩ Y Y Y Y Y (by first | omega | (simp only [List.length_append, List.length_cons, List.length_nil]; omega)) (fun k => ?_) | fail)
      | refine r_q hG Y Y Y ?_); try exact kk)
    | (show AL _ _ _ _ _ _ _ _; first | refine Bi Y Y Y ?_ | (refine At ?_; first | show AW _ _ _ _ _ _ | show ∃ x', _ < _ ∧ _)) | (show AW _ _ (.seq _ _) _ _ _; refine Ak ?_; intro Q1) | (show AW _ _ (.region _ _ false) _ _ _; refine Ad ?_; intro O1) | (show AW _ _ (.cond _ _ _) _ _ _; first | refine Ap Y ?_ | refine Aq Y ?_ | refine Bc Y (fun h => ?_) (fun h => ?_)) | (show AW _ _ (.skip) _ _ _; refine Aj ?_; first | show AW _ _ _ _ _ _ | show ∃ x', _ < _ ∧ _) | (show AW _ _ (.block _ _) _ _ _; refine Af ?_; intro Q1) | (show AW _ _ (.exit _) _ _ _; refine Am ?_; first | show AW _ _ _ _ _ _ | show ∃ x', _ < _ ∧ _) | (show AW _ _ (.ret) _ _ _; refine Ax ?_; try dsimp only [Aw, Ab, A2, Ag])
    | (show DL _ _ _ _ _ _ _; refine Bx Y Y (fun K kt kf => Al hG Y Y Y Y Y kt kf) (fun h => ?_) (fun h => ?_))
    | (show DL _ _ _ _ _ _ _; refine Bw Y Y Y ?_) | (show DL _ _ _ _ _ _ _; refine Be ?_; first | show AW _ _ _ _ _ _ | show ∃ x', _ < _ ∧ _) | (show AW _ _ (.region _ _ true) _ _ _; refine Ay mix (by kernel_rfl) ?_; intro O1) | fail)
      refine aw_tok0 11 13 rfl rfl rfl rfl (fun k0 => ?_)
      obtain ⟨g, hg⟩ : ∃ g, r.getD q default = g := ⟨_, rfl⟩
      rw [hg]
      refine aw_loop (X := DoZ l g) (fun x => [(0, .sl 13 .no (l.map oT)), (5, .sl 1 .no (r.map mT)), (10, mT g), (11, .sl 13 (.tok x.k) (x.less.map oT)), (12, .int .i64 (x.i : Int))]) (fun x => ⟨[], [x.k], off, none⟩) (fun x => l.length - x.i) ⟨0, [], k0, Nat.zero_le _, rfl⟩ (by repeat (first | exact .nil _ | refine .cons rfl ?_)) (.refl _) ?_
      rintro ⟨i, less, k, hi, ho⟩
      dsimp only
      have hol : less.length ≤ 20 := by
        rw [ho]; refine Nat.le_trans (List.length_filter_le _ _) ?_
        rw [List.length_take]; omega
      by_cases hil : i < l.length
      · have hst := filter_snoc (p := fun o => decide (o.id ≠ g)) hil
        rw [← ho] at hst
        by_cases he : (((l.getD i default).id : Nat) : Int) = ((g : Nat) : Int)
        · rw [if_neg (by show ¬ decide (_ ≠ _) = true; rw [decide_eq_true_eq]; omega), List.append_nil] at hst
          repeat' (first
    | ((first | (show AL _ _ _ _ _ _ _ _; refine Ah Y ?_) | (show DL _ _ _ _ _ _ _; refine' A5 Y Y (fun K kk => ?_) ?_; try (show Go.Ts.T; rotate_left))); (first
      | (show AOp _ _ ⟨_, .move _, _, _, _, _⟩ _ _ _; refine Ar hG Y Y ?_)
      | (show AOp _ _ ⟨_, .assign _, _, _, _, _⟩ _ _ _; refine A4 hG Y Y ?_)
      | (show AOp _ _ ⟨_, .call ⟨.builtin .len, _, _⟩, _, _, _, _⟩ _ _ _; first | refine Bk hG Y Y Y Y ?_ | refine Bv hG Y Y Y Y Y ?_)
      | (show AOp _ _ ⟨_, .binOp .add _ _ _ _, _, _, _, _⟩ _ _ _; first | refine Ac hG Y Y Y Y Y (by omega) ?_ | refine Ac (m := 1) hG Y Y Y Y Y (by omega) ?_ | refine Aa hG Y Y Y Y Y (by omega) ?_)
      | (show AOp _ _ ⟨_, .binOp .sub _ _ _ _, _, _, _, _⟩ _ _ _; first | refine Ai hG Y Y Y Y (by omega) ?_ | refine Ai (m := 1) hG Y Y Y Y (by omega) ?_ | refine B6 (m := 1) hG Y Y Y Y (by omega) ?_ | refine Aa hG Y Y Y Y Y (by omega) ?_)
      | (show AOp _ _ ⟨_, .binOp .rem _ _ _ _, _, _, _, _⟩ _ _ _; first | refine r_rem hG Y Y Y Y (by omega) ?_ | refine r_trem hG Y Y Y Y (by omega) ?_)
      | (show AOp _ _ ⟨_, .binOp _ _ _ _ _, _, _, _, _⟩ _ _ _; first | refine Au hG Y Y Y Y Y (by omega) ?_ | refine Av hG Y Y Y Y Y (by omega) ?_ | ((fail_if_success have := kk); refine Al hG Y Y Y Y Y (fun h => ?_) (fun h => ?_)))
      | (show AOp _ _ ⟨_, .load _ _, _, _, _, _⟩ _ _ _; first | refine Ao (α := UInt16) 0 hG Y Y Y Y (by omega) Y ?_ | refine Ao (α := UInt16) 1 hG Y Y Y Y (by omega) Y ?_ | refine Az hG Y Y Y ?_ | refine Bf 0 hG Y Y Y Y ?_)
      | (show AOp _ _ ⟨_, .indexAddr _ _ _, _, _, _, _⟩ _ _ _; first | refine A3 hG Y Y Y Y Y Y Y (by omega) ?_ | refine A1 hG Y Y Y Y Y Y Y (by omega) ?_ | refine A0 hG Y Y Y Y Y Y Y (by omega) ?_ | refine Ba hG Y Y ?_)
      | (show AOp _ _ ⟨_, .convert _ _ _, _, _, _, _⟩ _ _ _; first | refine r_cv8 hG Y Y Y Y Y Y ?_ | refine B4 hG Y Y Y Y Y (by omega) ?_ | refine r_cvw hG Y Y Y Y Y ?_)
      | (show AOp _ _ ⟨_, .pick _ _ _, _, _, _, _⟩ _ _ _; refine A6 hG Y Y Y ?_)
      | (show AOp _ _ ⟨_, .unOp _ _ _, _, _, _, _⟩ _ _ _; refine Bo hG Y Y Y ?_)
      | (show AOp _ _ ⟨_, .buildSlice _ _ _, _, _, _, _⟩ _ _ _; first | refine r_mk (sz := 13) hG Y Y Y Y Y Y Y ?_)
      | (show AOp _ _ ⟨_, .call ⟨.builtin .append, _, _⟩, _, _, _, _⟩ _ _ _; first | refine Bm (sz := 1) (xs := []) hG Y Y Y Y Y Y Y ⟨_, Y⟩ Y Y Y Y Y Y Y (by first | omega | (simp; omega)) (fun k => ?_) | refine Bt 0 hG Y Y Y Y Y Y Y ⟨_, Y⟩ Y Y Y Y Y (by first | omega | (simp only [List.length_append, List.length_cons, List.length_nil]; omega)) (fun k => ?_) | fail)
      | refine r_q hG Y Y Y ?_); try exact kk)
    | (show AL _ _ _ _ _ _ _ _; first | refine Bi Y Y Y ?_ | (refine At ?_; first | show AW _ _ _ _ _ _ | show ∃ x', _ < _ ∧ _)) | (show AW _ _ (.seq _ _) _ _ _; refine Ak ?_; intro Q1) | (show AW _ _ (.region _ _ false) _ _ _; refine Ad ?_; intro O1) | (show AW _ _ (.cond _ _ _) _ _ _; first | refine Ap Y ?_ | refine Aq Y ?_ | refine Bc Y (fun h => ?_) (fun h => ?_)) | (show AW _ _ (.skip) _ _ _; refine Aj ?_; first | show AW _ _ _ _ _ _ | show ∃ x', _ < _ ∧ _) | (show AW _ _ (.block _ _) _ _ _; refine Af ?_; intro Q1) | (show AW _ _ (.exit _) _ _ _; refine Am ?_; first | show AW _ _ _ _ _ _ | show ∃ x', _ < _ ∧ _) | (show AW _ _ (.ret) _ _ _; refine Ax ?_; try dsimp only [Aw, Ab, A2, Ag])
    | (show DL _ _ _ _ _ _ _; refine Bx Y Y (fun K kt kf => Al hG Y Y Y Y Y kt kf) (fun h => ?_) (fun h => ?_))
    | (show DL _ _ _ _ _ _ _; refine Bw Y Y Y ?_) | (show DL _ _ _ _ _ _ _; refine Be ?_; first | show AW _ _ _ _ _ _ | show ∃ x', _ < _ ∧ _) | (show AW _ _ (.region _ _ true) _ _ _; refine Ay mix (by kernel_rfl) ?_; intro O1) | fail)
          exact ⟨⟨i + 1, less, k, by omega, hst.symm⟩, by dsimp only; omega, (by repeat (first | exact .nil _ | refine .cons rfl ?_)), .refl _⟩
        · rw [if_pos (by show decide (_ ≠ _) = true; rw [decide_eq_true_eq]; omega)] at hst
          repeat' (first
    | ((first | (show AL _ _ _ _ _ _ _ _; refine Ah Y ?_) | (show DL _ _ _ _ _ _ _; refine' A5 Y Y (fun K kk => ?_) ?_; try (show Go.Ts.T; rotate_left))); (first
      | (show AOp _ _ ⟨_, .move _, _, _, _, _⟩ _ _ _; refine Ar hG Y Y ?_)
      | (show AOp _ _ ⟨_, .assign _, _, _, _, _⟩ _ _ _; refine A4 hG Y Y ?_)
      | (show AOp _ _ ⟨_, .call ⟨.builtin .len, _, _⟩, _, _, _, _⟩ _ _ _; first | refine Bk hG Y Y Y Y ?_ | refine Bv hG Y Y Y Y Y ?_)
      | (show AOp _ _ ⟨_, .binOp .add _ _ _ _, _, _, _, _⟩ _ _ _; first | refine Ac hG Y Y Y Y Y (by omega) ?_ | refine Ac (m := 1) hG Y Y Y Y Y (by omega) ?_ | refine Aa hG Y Y Y Y Y (by omega) ?_)
      | (show AOp _ _ ⟨_, .binOp .sub _ _ _ _, _, _, _, _⟩ _ _ _; first | refine Ai hG Y Y Y Y (by omega) ?_ | refine Ai (m := 1) hG Y Y Y Y (by omega) ?_ | refine B6 (m := 1) hG Y Y Y Y (by omega) ?_ | refine Aa hG Y Y Y Y Y (by omega) ?_)
      | (show AOp _ _ ⟨_, .binOp .rem _ _ _ _, _, _, _, _⟩ _ _ _; first | refine r_rem hG Y Y Y Y (by omega) ?_ | refine r_trem hG Y Y Y Y (by omega) ?_)
      | (show AOp _ _ ⟨_, .binOp _ _ _ _ _, _, _, _, _⟩ _ _ _; first | refine Au hG Y Y Y Y Y (by omega) ?_ | refine Av hG Y Y Y Y Y (by omega) ?_ | ((fail_if_success have := kk); refine Al hG Y Y Y Y Y (fun h => ?_) (fun h => ?_)))
      | (show AOp _ _ ⟨_, .load _ _, _, _, _, _⟩ _ _ _; first | refine Ao (α := UInt16) 0 hG Y Y Y Y (by omega) Y ?_ | refine Ao (α := UInt16) 1 hG Y Y Y Y (by omega) Y ?_ | refine Az hG Y Y Y ?_ | refine Bf 0 hG Y Y Y Y ?_)
      | (show AOp _ _ ⟨_, .indexAddr _ _ _, _, _, _, _⟩ _ _ _; first | refine A3 hG Y Y Y Y Y Y Y (by omega) ?_ | refine A1 hG Y Y Y Y Y Y Y (by omega) ?_ | refine A0 hG Y Y Y Y Y Y Y (by omega) ?_ | refine Ba hG Y Y ?_)
      | (show AOp _ _ ⟨_, .convert _ _ _, _, _, _, _⟩ _ _ _; first | refine r_cv8 hG Y Y Y Y Y Y ?_ | refine B4 hG Y Y Y Y Y (by omega) ?_ | refine r_cvw hG Y Y Y Y Y ?_)
      | (show AOp _ _ ⟨_, .pick _ _ _, _, _, _, _⟩ _ _ _; refine A6 hG Y Y Y ?_)
      | (show AOp _ _ ⟨_, .unOp _ _ _, _, _, _, _⟩ _ _ _; refine Bo hG Y Y Y ?_)
      | (show AOp _ _ ⟨_, .buildSlice _ _ _, _, _, _, _⟩ _ _ _; first | refine r_mk (sz := 13) hG Y Y Y Y Y Y Y ?_)
      | (show AOp _ _ ⟨_, .call ⟨.builtin .append, _, _⟩, _, _, _, _⟩ _ _ _; first | refine Bt 0 (ys := [l.getD i default]) hG Y Y Y Y Y Y Y ⟨_, Y⟩ Y Y Y Y Y (by simp only [List.length_append, List.length_map, List.length_cons, List.length_nil]; omega) (fun k => ?_) | refine Bm (sz := 1) (xs := []) hG Y Y Y Y Y Y Y ⟨_, Y⟩ Y Y Y Y Y Y Y (by first | omega | (simp; omega)) (fun k => ?_) | refine Bt 0 hG Y Y Y Y Y Y Y ⟨_, Y⟩ Y Y Y Y Y (by first | omega | (simp only [List.length_append, List.length_cons, List.length_nil]; omega)) (fun k => ?_) | fail)
      | refine r_q hG Y Y Y ?_); try exact kk)
    | (show AL _ _ _ _ _ _ _ _; first | refine Bi Y Y Y ?_ | (refine At ?_; first | show AW _ _ _ _ _ _ | show ∃ x', _ < _ ∧ _)) | (show AW _ _ (.seq _ _) _ _ _; refine Ak ?_; intro Q1) | (show AW _ _ (.region _ _ false) _ _ _; refine Ad ?_; intro O1) | (show AW _ _ (.cond _ _ _) _ _ _; first | refine Ap Y ?_ | refine Aq Y ?_ | refine Bc Y (fun h => ?_) (fun h => ?_)) | (show AW _ _ (.skip) _ _ _; refine Aj ?_; first | show AW _ _ _ _ _ _ | show ∃ x', _ < _ ∧ _) | (show AW _ _ (.block _ _) _ _ _; refine Af ?_; intro Q1) | (show AW _ _ (.exit _) _ _ _; refine Am ?_; first | show AW _ _ _ _ _ _ | show ∃ x', _ < _ ∧ _) | (show AW _ _ (.ret) _ _ _; refine Ax ?_; try dsimp only [Aw, Ab, A2, Ag])
    | (show DL _ _ _ _ _ _ _; refine Bx Y Y (fun K kt kf => Al hG Y Y Y Y Y kt kf) (fun h => ?_) (fun h => ?_))
    | (show DL _ _ _ _ _ _ _; refine Bw Y Y Y ?_) | (show DL _ _ _ _ _ _ _; refine Be ?_; first | show AW _ _ _ _ _ _ | show ∃ x', _ < _ ∧ _) | (show AW _ _ (.region _ _ true) _ _ _; refine Ay mix (by kernel_rfl) ?_; intro O1) | fail)
          exact ⟨⟨i + 1, less ++ [l.getD i default], _, by omega, hst.symm⟩, by dsimp only; omega, (by repeat (first | exact .nil _ | refine .cons rfl ?_)), .refl _⟩
      · rw [List.take_of_length_le (by omega)] at ho
        have hp : ∀ o : OB, (fun o : OB => decide (o.id ≠ g)) o = decide (o.id ≠ g) := fun o => rfl
        have z1 := less_len (l := l) hp
        have z2 := less_within (l := l) hp
        rw [← ho, hre] at z1
        rw [← ho] at z2
        have g1 := reachO (own := .tok k) (l := less) (R := reachL less) (by omega) rfl
        have g2 := withinO (own := .no) (l := l) (v := g) (R := withinL l g) (by omega) rfl
        have g3 := withinO (own := .tok k) (l := less) (v := g) (R := []) (by omega) z2
        have n0 : ([] : List Nat).length = 0 := rfl
        have z3 : ((reachL less).length : Int) = (r.length : Int) - ((withinL l g).length : Int) := by omega
        repeat' (first
    | ((first | (show AL _ _ _ _ _ _ _ _; refine Ah Y ?_) | (show DL _ _ _ _ _ _ _; refine' A5 Y Y (fun K kk => ?_) ?_; try (show Go.Ts.T; rotate_left))); (first
      | (show AOp _ _ ⟨_, .move _, _, _, _, _⟩ _ _ _; refine Ar hG Y Y ?_)
      | (show AOp _ _ ⟨_, .assign _, _, _, _, _⟩ _ _ _; refine A4 hG Y Y ?_)
      | (show AOp _ _ ⟨_, .call ⟨.builtin .len, _, _⟩, _, _, _, _⟩ _ _ _; first | refine Bk hG Y Y Y Y ?_ | refine Bv hG Y Y Y Y Y ?_)
      | (show AOp _ _ ⟨_, .binOp .add _ _ _ _, _, _, _, _⟩ _ _ _; first | refine Ac hG Y Y Y Y Y (by omega) ?_ | refine Ac (m := 1) hG Y Y Y Y Y (by omega) ?_ | refine Aa hG Y Y Y Y Y (by omega) ?_)
      | (show AOp _ _ ⟨_, .binOp .sub _ _ _ _, _, _, _, _⟩ _ _ _; first | refine Ai hG Y Y Y Y (by omega) ?_ | refine Ai (m := 1) hG Y Y Y Y (by omega) ?_ | refine B6 (m := 1) hG Y Y Y Y (by omega) ?_ | refine Aa hG Y Y Y Y Y (by omega) ?_)
      | (show AOp _ _ ⟨_, .binOp .rem _ _ _ _, _, _, _, _⟩ _ _ _; first | refine r_rem hG Y Y Y Y (by omega) ?_ | refine r_trem hG Y Y Y Y (by omega) ?_)
      | (show AOp _ _ ⟨_, .binOp _ _ _ _ _, _, _, _, _⟩ _ _ _; first | refine Au hG Y Y Y Y Y (by omega) ?_ | refine Av hG Y Y Y Y Y (by omega) ?_ | ((fail_if_success have := kk); refine Al hG Y Y Y Y Y (fun h => ?_) (fun h => ?_)))
      | (show AOp _ _ ⟨_, .load _ _, _, _, _, _⟩ _ _ _; first | refine Ao (α := UInt16) 0 hG Y Y Y Y (by omega) Y ?_ | refine Ao (α := UInt16) 1 hG Y Y Y Y (by omega) Y ?_ | refine Az hG Y Y Y ?_ | refine Bf 0 hG Y Y Y Y ?_)
      | (show AOp _ _ ⟨_, .indexAddr _ _ _, _, _, _, _⟩ _ _ _; first | refine A3 hG Y Y Y Y Y Y Y (by omega) ?_ | refine A1 hG Y Y Y Y Y Y Y (by omega) ?_ | refine A0 hG Y Y Y Y Y Y Y (by omega) ?_ | refine Ba hG Y Y ?_)
      | (show AOp _ _ ⟨_, .convert _ _ _, _, _, _, _⟩ _ _ _; first | refine r_cv8 hG Y Y Y Y Y Y ?_ | refine B4 hG Y Y Y Y Y (by omega) ?_ | refine r_cvw hG Y Y Y Y Y ?_)
      | (show AOp _ _ ⟨_, .pick _ _ _, _, _, _, _⟩ _ _ _; refine A6 hG Y Y Y ?_)
      | (show AOp _ _ ⟨_, .unOp _ _ _, _, _, _, _⟩ _ _ _; refine Bo hG Y Y Y ?_)
      | (show AOp _ _ ⟨_, .buildSlice _ _ _, _, _, _, _⟩ _ _ _; first | refine r_mk (sz := 13) hG Y Y Y Y Y Y Y ?_)
      | (show AOp _ _ ⟨_, .call ⟨.builtin .append, _, _⟩, _, _, _, _⟩ _ _ _; first | refine Bm (sz := 1) (xs := []) hG Y Y Y Y Y Y Y ⟨_, Y⟩ Y Y Y Y Y Y Y (by first | omega | (simp; omega)) (fun k => ?_) | refine Bt 0 hG Y Y Y Y Y Y Y ⟨_, Y⟩ Y Y Y Y Y (by first | omega | (simp only [List.length_append, List.length_cons, List.length_nil]; omega)) (fun k => ?_) | fail)
      | (show AOp _ _ ⟨_, .call ⟨.value _, _, _⟩, _, _, _, _⟩ _ _ _; first | refine Br Y Y Y Y Y (by first | (apply g1 <;> (first | assumption | omega | exact A7 _ _ | exact Bg _ | exact Bd _ _ | exact Bj _ | rfl | (simp; omega))) | fail) ?_ | refine Br Y Y Y Y Y (by first | (apply g2 <;> (first | assumption | omega | exact A7 _ _ | exact Bg _ | exact Bd _ _ | exact Bj _ | rfl | (simp; omega))) | fail) ?_ | refine Br Y Y Y Y Y (by first | (apply g3 <;> (first | assumption | omega | exact A7 _ _ | exact Bg _ | exact Bd _ _ | exact Bj _ | rfl | (simp; omega))) | fail) ?_ | fail)
      | refine r_q hG Y Y Y ?_); try exact kk)
    | (show AL _ _ _ _ _ _ _ _; first | refine Bi Y Y Y ?_ | (refine At ?_; first | show AW _ _ _ _ _ _ | show ∃ x', _ < _ ∧ _)) | (show AW _ _ (.seq _ _) _ _ _; refine Ak ?_; intro Q1) | (show AW _ _ (.region _ _ false) _ _ _; refine Ad ?_; intro O1) | (show AW _ _ (.cond _ _ _) _ _ _; first | refine Ap Y ?_ | refine Aq Y ?_ | refine Bc Y (fun h => ?_) (fun h => ?_)) | (show AW _ _ (.skip) _ _ _; refine Aj ?_; first | show AW _ _ _ _ _ _ | show ∃ x', _ < _ ∧ _) | (show AW _ _ (.block _ _) _ _ _; refine Af ?_; intro Q1) | (show AW _ _ (.exit _) _ _ _; refine Am ?_; first | show AW _ _ _ _ _ _ | show ∃ x', _ < _ ∧ _) | (show AW _ _ (.ret) _ _ _; refine Ax ?_; try dsimp only [Aw, Ab, A2, Ag])
    | (show DL _ _ _ _ _ _ _; refine Bx Y Y (fun K kt kf => Al hG Y Y Y Y Y kt kf) (fun h => ?_) (fun h => ?_))
    | (show DL _ _ _ _ _ _ _; refine Bw Y Y Y ?_) | (show DL _ _ _ _ _ _ _; refine Be ?_; first | show AW _ _ _ _ _ _ | show ∃ x', _ < _ ∧ _) | (show AW _ _ (.region _ _ true) _ _ _; refine Ay mix (by kernel_rfl) ?_; intro O1) | fail)
        exact By (Bn rfl Bl) (.refl _) rfl
theorem walkDown_law (_W : World) (x : T) (tx : ArgTy G 6 22 x) (n : Int) (wn : (Lit.int .u8 n).wf = true) : ACalls Try.prog 6 [x, .int .u8 n] σ0 (fun r _ => r = .bool true) := by
  obtain ⟨l, rfl, hl⟩ := argTy_obs tx
  have u := wf_u8 wn
  have e : T.int .u8 n = bT (UInt8.ofNat n.toNat) := by
    unfold bT
    congr 1
    have : (UInt8.ofNat n.toNat).toNat = n.toNat := by simp [UInt8.toNat_ofNat]; omega
    omega
  rw [e]
  exact (walkDown_pure hl (fun _ _ => False)).mono fun _ _ h => h.1
end Go.Proofs.Ytmckbfdklcmogaa
