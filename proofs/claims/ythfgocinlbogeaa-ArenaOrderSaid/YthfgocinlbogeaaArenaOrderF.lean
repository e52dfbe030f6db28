/- Part of the proof of the law ArenaOrder: the texts AC, AD, WS, AE, AF, AG. No conditions. -/
import Derived.Test.YthfgocinlbogeaaArenaOrderE
set_option linter.unusedSimpArgs false
set_option linter.unusedVariables false
namespace Go.Proofs.Ythfgocinlbogeaa
open Go.Ts
set_option linter.unusedSimpArgs false
set_option linter.unusedVariables false
set_option linter.unnecessarySimpa false
attribute [local irreducible] Go.Ts.AW Go.Ts.AOps Go.Ts.AL Go.Ts.AOp Go.Ts.ACalls Go.Ts.DL Go.Ts.DQ0 Go.Ts.EL
def slT : List SB → Nat → T
  | [], _ => .nilsl
  | s :: l, i => .aref 4 i 0 (s :: l).length none
def rowOf : List SB → Nat → List (Nat × Ob)
  | [], _ => []
  | s :: l, i => [(i, .cells (flat ((s :: l).map sbT)))]
def arL (v : UInt8) (l : List SB) (at' : List (Nat × Int)) (p i m : Nat) : List (Nat × Ob) := (p, .cells [bT v, slT l i, .map (some m)]) :: (m, .map (at'.map kvT)) :: rowOf l i
theorem arena_New (v : UInt8) : OnL Try.prog 31 [bT v] [] (fun u L => ∃ p m, u = .ptr p 0 ∧ L = arL v [] [] p 0 m) := by
  intro off
  refine Bp (N := 7) (rs := [.tmp 2]) hG Try.func31 rfl rfl rfl rfl rfl ?_
  repeat' (first
    | ((show AL _ _ _ _ _ _ _ _; refine Ae Y ?_); (first
      | refine Aq hG Y Y ?_
      | refine A5 hG Y Y ?_
      | refine r_build hG Y Y Y Y Y ?_
      | (show AOp _ _ ⟨_, .box _ _, _, _, _, _⟩ _ _ _; refine r_box hG Y Y Y (fun i => ?_))
      | refine r_q hG Y Y Y ?_))
    | (show AL _ _ _ _ _ _ _ _; first | refine Bj Y Y Y ?_ | (refine Ar ?_; first | show AW _ _ _ _ _ _ | show ∃ x', _ < _ ∧ _)) | (show AW _ _ (.seq _ _) _ _ _; refine Ah ?_; intro Q1) | (show AW _ _ (.region _ _ false) _ _ _; refine Ad ?_; intro O1) | (show AW _ _ (.ret) _ _ _; refine Av ?_; try dsimp only [A3, Ac, A7, Ag]) | fail)
  refine Ae rfl ?_
  refine aop_makeMap hG rfl rfl (fun m hm => ?_)
  repeat' (first
    | ((show AL _ _ _ _ _ _ _ _; refine Ae Y ?_); (first
      | refine Aq hG Y Y ?_
      | refine A5 hG Y Y ?_
      | refine r_build hG Y Y Y Y Y ?_
      | (show AOp _ _ ⟨_, .box _ _, _, _, _, _⟩ _ _ _; refine r_box hG Y Y Y (fun i => ?_))
      | refine r_q hG Y Y Y ?_))
    | (show AL _ _ _ _ _ _ _ _; first | refine Bj Y Y Y ?_ | (refine Ar ?_; first | show AW _ _ _ _ _ _ | show ∃ x', _ < _ ∧ _)) | (show AW _ _ (.seq _ _) _ _ _; refine Ah ?_; intro Q1) | (show AW _ _ (.region _ _ false) _ _ _; refine Ad ?_; intro O1) | (show AW _ _ (.ret) _ _ _; refine Av ?_; try dsimp only [A3, Ac, A7, Ag]) | fail)
  exact ret_onL (Bq rfl Bo) (.refl _) (.refl _) (.refl _) rfl ⟨i, m, rfl, rfl⟩
def fidx (l : List SB) : Nat := if freeI l 0 < 0 then l.length else (freeI l 0).toNat
def flS (l : List SB) : List SB := if freeI l 0 < 0 then l ++ [default] else l
theorem arena_free (v : UInt8) (l : List SB) (at' : List (Nat × Int)) (hl : l.length ≤ 1000000) (p i m : Nat) : OnL Try.prog 62 [.ptr p 0] (arL v l at' p i m) (fun u L => ∃ i', u = .int .i64 (fidx l : Int) ∧ L = arL v (flS l) at' p i' m) := by
  intro off
  cases l with
  | nil =>
    have h0 := arena_index0
    refine Bp (N := 27) (rs := [.tmp 2]) hG Try.func62 rfl rfl rfl rfl rfl ?_
    repeat' (first
    | ((show AL _ _ _ _ _ _ _ _; refine Ae Y ?_); (first
      | refine Aq hG Y Y ?_
      | refine A5 hG Y Y ?_
      | (show AOp _ _ ⟨_, .call ⟨.builtin .len, _, _⟩, _, _, _, _⟩ _ _ _; first | refine Br hG Y Y Y Y ?_ | refine Bx hG Y Y Y Y Y ?_)
      | (show AOp _ _ ⟨_, .binOp _ _ _ _ _, _, _, _, _⟩ _ _ _; first | refine Au hG Y Y Y Y Y (by omega) ?_ | refine At hG Y Y Y Y Y (by omega) ?_ | (refine Am hG Y Y Y Y Y (fun h => ?_) (fun h => ?_)))
      | (show AOp _ _ ⟨_, .load _ _, _, _, _, _⟩ _ _ _; first | refine Ak (α := UInt16) 0 hG Y Y Y Y (by omega) Y ?_ | refine Ak (α := UInt16) 1 hG Y Y Y Y (by omega) Y ?_ | refine A8 0 hG Y Y Y Y ?_ | refine A8 1 hG Y Y Y Y ?_)
      | (show AOp _ _ ⟨_, .buildSlice _ _ _, _, _, _, _⟩ _ _ _; first | refine r_mk (sz := 4) hG Y Y Y Y Y Y Y ?_)
      | refine r_build hG Y Y Y Y Y ?_
      | (show AOp _ _ ⟨_, .store _ _ _, _, _, _, _⟩ _ _ _; first | refine A0 (α := UInt16) 0 hG Y Y Y hT_cells hT_sc Y Y (by first | omega | (simp only [Array.size_setIfInBounds]; omega)) ?_ | refine A0 (α := UInt16) 1 hG Y Y Y hT_cells hT_sc Y Y (by first | omega | (simp only [Array.size_setIfInBounds]; omega)) ?_ | refine Bg 0 hG Y Y Y Y Y Y Y ?_ | refine Bg 1 hG Y Y Y Y Y Y Y ?_)
      | (show AOp _ _ ⟨_, .call ⟨.builtin .append, _, _⟩, _, _, _, _⟩ _ _ _; fail)
      | (show AOp _ _ ⟨_, .call ⟨.value _, _, _⟩, _, _, _, _⟩ _ _ _; first | refine B0 Y Y Y Y Y (by first | (apply h0 <;> (first | assumption | omega | exact Ba _ _ | exact Bi _ | exact Bk _ _ | exact Bs _ | rfl | (simp; omega))) | fail) ?_ | fail)
      | refine r_q hG Y Y Y ?_))
    | (show AL _ _ _ _ _ _ _ _; first | refine Bj Y Y Y ?_ | (refine Ar ?_; first | show AW _ _ _ _ _ _ | show ∃ x', _ < _ ∧ _)) | (show AW _ _ (.seq _ _) _ _ _; refine Ah ?_; intro Q1) | (show AW _ _ (.region _ _ false) _ _ _; refine Ad ?_; intro O1) | (show AW _ _ (.cond _ _ _) _ _ _; first | refine Ao Y ?_ | refine Ap Y ?_ | refine Bf Y (fun h => ?_) (fun h => ?_)) | (show AW _ _ (.skip) _ _ _; refine Aj ?_; first | show AW _ _ _ _ _ _ | show ∃ x', _ < _ ∧ _) | (show AW _ _ (.ret) _ _ _; refine Av ?_; try dsimp only [A3, Ac, A7, Ag]) | fail)
    refine Ae rfl (aop_app0L (objs := fun _ => none) (ys := [sbT default]) hG rfl rfl rfl rfl rfl ⟨_, rfl⟩ rfl rfl (fun i o h => by cases h) rfl rfl (by simp) (by simp) rfl (fun i' hi' => ?_))
    repeat' (first
    | ((show AL _ _ _ _ _ _ _ _; refine Ae Y ?_); (first
      | refine Aq hG Y Y ?_
      | refine A5 hG Y Y ?_
      | (show AOp _ _ ⟨_, .call ⟨.builtin .len, _, _⟩, _, _, _, _⟩ _ _ _; first | refine Br hG Y Y Y Y ?_ | refine Bx hG Y Y Y Y Y ?_)
      | (show AOp _ _ ⟨_, .binOp _ _ _ _ _, _, _, _, _⟩ _ _ _; first | refine Au hG Y Y Y Y Y (by omega) ?_ | refine At hG Y Y Y Y Y (by omega) ?_ | (refine Am hG Y Y Y Y Y (fun h => ?_) (fun h => ?_)))
      | (show AOp _ _ ⟨_, .load _ _, _, _, _, _⟩ _ _ _; first | refine Ak (α := UInt16) 0 hG Y Y Y Y (by omega) Y ?_ | refine Ak (α := UInt16) 1 hG Y Y Y Y (by omega) Y ?_ | refine A8 0 hG Y Y Y Y ?_ | refine A8 1 hG Y Y Y Y ?_)
      | (show AOp _ _ ⟨_, .buildSlice _ _ _, _, _, _, _⟩ _ _ _; first | refine r_mk (sz := 4) hG Y Y Y Y Y Y Y ?_)
      | refine r_build hG Y Y Y Y Y ?_
      | (show AOp _ _ ⟨_, .store _ _ _, _, _, _, _⟩ _ _ _; first | refine A0 (α := UInt16) 0 hG Y Y Y hT_cells hT_sc Y Y (by first | omega | (simp only [Array.size_setIfInBounds]; omega)) ?_ | refine A0 (α := UInt16) 1 hG Y Y Y hT_cells hT_sc Y Y (by first | omega | (simp only [Array.size_setIfInBounds]; omega)) ?_ | refine Bg 0 hG Y Y Y Y Y Y Y ?_ | refine Bg 1 hG Y Y Y Y Y Y Y ?_)
      | (show AOp _ _ ⟨_, .call ⟨.builtin .append, _, _⟩, _, _, _, _⟩ _ _ _; first | refine Cd (sz := 1) (xs := []) hG Y Y Y Y Y Y Y ⟨_, Y⟩ Y Y Y Y Y Y Y (by first | omega | (simp; omega)) (fun k => ?_) | refine r_appm 0 hG Y Y Y Y Y Y Y ⟨_, Y⟩ Y Y Y Y Y (by first | omega | (simp only [List.length_append, List.length_cons, List.length_nil]; omega)) (fun k => ?_) | fail)
      | refine r_q hG Y Y Y ?_))
    | (show AL _ _ _ _ _ _ _ _; first | refine Bj Y Y Y ?_ | (refine Ar ?_; first | show AW _ _ _ _ _ _ | show ∃ x', _ < _ ∧ _)) | (show AW _ _ (.seq _ _) _ _ _; refine Ah ?_; intro Q1) | (show AW _ _ (.region _ _ false) _ _ _; refine Ad ?_; intro O1) | (show AW _ _ (.cond _ _ _) _ _ _; first | refine Ao Y ?_ | refine Ap Y ?_ | refine Bf Y (fun h => ?_) (fun h => ?_)) | (show AW _ _ (.skip) _ _ _; refine Aj ?_; first | show AW _ _ _ _ _ _ | show ∃ x', _ < _ ∧ _) | (show AW _ _ (.ret) _ _ _; refine Av ?_; try dsimp only [A3, Ac, A7, Ag]) | fail)
    exact ret_onL (Bq rfl Bo) (.refl _) (List.perm_append_comm (l₁ := [(i', _)]) (l₂ := [(p, _), (m, _)])) (.refl _) rfl ⟨i', rfl, rfl⟩
  | cons s l =>
    refine Bp (N := 27) (rs := [.tmp 2]) hG Try.func62 rfl rfl rfl rfl rfl ?_
    have h1 := arena_index (l := s :: l) (by omega) i (s :: l).length none rfl
    repeat' (first
    | ((show AL _ _ _ _ _ _ _ _; refine Ae Y ?_); (first
      | refine Aq hG Y Y ?_
      | refine A5 hG Y Y ?_
      | (show AOp _ _ ⟨_, .call ⟨.builtin .len, _, _⟩, _, _, _, _⟩ _ _ _; first | refine Br hG Y Y Y Y ?_ | refine Bx hG Y Y Y Y Y ?_)
      | (show AOp _ _ ⟨_, .binOp _ _ _ _ _, _, _, _, _⟩ _ _ _; first | refine Au hG Y Y Y Y Y (by omega) ?_ | refine At hG Y Y Y Y Y (by omega) ?_ | (refine Am hG Y Y Y Y Y (fun h => ?_) (fun h => ?_)))
      | (show AOp _ _ ⟨_, .load _ _, _, _, _, _⟩ _ _ _; first | refine Ak (α := UInt16) 0 hG Y Y Y Y (by omega) Y ?_ | refine Ak (α := UInt16) 1 hG Y Y Y Y (by omega) Y ?_ | refine A8 0 hG Y Y Y Y ?_ | refine A8 1 hG Y Y Y Y ?_)
      | (show AOp _ _ ⟨_, .buildSlice _ _ _, _, _, _, _⟩ _ _ _; first | refine r_mk (sz := 4) hG Y Y Y Y Y Y Y ?_)
      | refine r_build hG Y Y Y Y Y ?_
      | (show AOp _ _ ⟨_, .store _ _ _, _, _, _, _⟩ _ _ _; first | refine A0 (α := UInt16) 0 hG Y Y Y hT_cells hT_sc Y Y (by first | omega | (simp only [Array.size_setIfInBounds]; omega)) ?_ | refine A0 (α := UInt16) 1 hG Y Y Y hT_cells hT_sc Y Y (by first | omega | (simp only [Array.size_setIfInBounds]; omega)) ?_ | refine Bg 0 hG Y Y Y Y Y Y Y ?_ | refine Bg 1 hG Y Y Y Y Y Y Y ?_)
      | (show AOp _ _ ⟨_, .call ⟨.builtin .append, _, _⟩, _, _, _, _⟩ _ _ _; first | refine Cd (sz := 1) (xs := []) hG Y Y Y Y Y Y Y ⟨_, Y⟩ Y Y Y Y Y Y Y (by first | omega | (simp; omega)) (fun k => ?_) | refine r_appm 0 hG Y Y Y Y Y Y Y ⟨_, Y⟩ Y Y Y Y Y (by first | omega | (simp only [List.length_append, List.length_cons, List.length_nil]; omega)) (fun k => ?_) | fail)
      | refine r_q hG Y Y Y ?_))
    | (show AL _ _ _ _ _ _ _ _; first | refine Bj Y Y Y ?_ | (refine Ar ?_; first | show AW _ _ _ _ _ _ | show ∃ x', _ < _ ∧ _)) | (show AW _ _ (.seq _ _) _ _ _; refine Ah ?_; intro Q1) | (show AW _ _ (.region _ _ false) _ _ _; refine Ad ?_; intro O1) | (show AW _ _ (.cond _ _ _) _ _ _; first | refine Ao Y ?_ | refine Ap Y ?_ | refine Bf Y (fun h => ?_) (fun h => ?_)) | (show AW _ _ (.skip) _ _ _; refine Aj ?_; first | show AW _ _ _ _ _ _ | show ∃ x', _ < _ ∧ _) | (show AW _ _ (.ret) _ _ _; refine Av ?_; try dsimp only [A3, Ac, A7, Ag]) | fail)
    refine Ae rfl (r_onL rfl rfl rfl rfl (Lf := [(p, .cells [bT v, .aref 4 i 0 (s :: l).length none, .map (some m)]), (m, .map (at'.map kvT))]) (List.perm_append_comm (l₁ := [(p, _), (m, _)]) (l₂ := [(i, _)])) h1 ?_)
    rintro u L' ⟨rfl, rfl⟩
    by_cases hfr : freeI (s :: l) 0 < 0
    · repeat' (first
    | ((show AL _ _ _ _ _ _ _ _; refine Ae Y ?_); (first
      | refine Aq hG Y Y ?_
      | refine A5 hG Y Y ?_
      | (show AOp _ _ ⟨_, .call ⟨.builtin .len, _, _⟩, _, _, _, _⟩ _ _ _; first | refine Br hG Y Y Y Y ?_ | refine Bx hG Y Y Y Y Y ?_)
      | (show AOp _ _ ⟨_, .binOp _ _ _ _ _, _, _, _, _⟩ _ _ _; first | refine Au hG Y Y Y Y Y (by omega) ?_ | refine At hG Y Y Y Y Y (by omega) ?_ | (refine Am hG Y Y Y Y Y (fun h => ?_) (fun h => ?_)))
      | (show AOp _ _ ⟨_, .load _ _, _, _, _, _⟩ _ _ _; first | refine Ak (α := UInt16) 0 hG Y Y Y Y (by omega) Y ?_ | refine Ak (α := UInt16) 1 hG Y Y Y Y (by omega) Y ?_ | refine A8 0 hG Y Y Y Y ?_ | refine A8 1 hG Y Y Y Y ?_)
      | (show AOp _ _ ⟨_, .buildSlice _ _ _, _, _, _, _⟩ _ _ _; first | refine r_mk (sz := 4) hG Y Y Y Y Y Y Y ?_)
      | refine r_build hG Y Y Y Y Y ?_
      | (show AOp _ _ ⟨_, .store _ _ _, _, _, _, _⟩ _ _ _; first | refine A0 (α := UInt16) 0 hG Y Y Y hT_cells hT_sc Y Y (by first | omega | (simp only [Array.size_setIfInBounds]; omega)) ?_ | refine A0 (α := UInt16) 1 hG Y Y Y hT_cells hT_sc Y Y (by first | omega | (simp only [Array.size_setIfInBounds]; omega)) ?_ | refine Bg 0 hG Y Y Y Y Y Y Y ?_ | refine Bg 1 hG Y Y Y Y Y Y Y ?_)
      | (show AOp _ _ ⟨_, .call ⟨.builtin .append, _, _⟩, _, _, _, _⟩ _ _ _; fail)
      | refine r_q hG Y Y Y ?_))
    | (show AL _ _ _ _ _ _ _ _; first | refine Bj Y Y Y ?_ | (refine Ar ?_; first | show AW _ _ _ _ _ _ | show ∃ x', _ < _ ∧ _)) | (show AW _ _ (.seq _ _) _ _ _; refine Ah ?_; intro Q1) | (show AW _ _ (.region _ _ false) _ _ _; refine Ad ?_; intro O1) | (show AW _ _ (.cond _ _ _) _ _ _; first | refine Ao Y ?_ | refine Ap Y ?_ | refine Bf Y (fun h => ?_) (fun h => ?_)) | (show AW _ _ (.skip) _ _ _; refine Aj ?_; first | show AW _ _ _ _ _ _ | show ∃ x', _ < _ ∧ _) | (show AW _ _ (.ret) _ _ _; refine Av ?_; try dsimp only [A3, Ac, A7, Ag]) | fail)
      refine Ae rfl (aop_appL (n := 0) (objs := fun _ => none) (ys := [sbT default]) hG rfl rfl rfl rfl rfl ⟨_, rfl⟩ rfl rfl ?_ rfl (fun i o h => by cases h) rfl rfl ?_ ?_ rfl (fun i' hi' => ?_))
      · rw [flat_length (enc_sized sbT _), List.length_map]; simp
      · intro q hq
        rw [flat_cons, flat_nil, List.append_nil] at hq
        exact Enc.scal (f := sbT) default q hq
      · simp only [List.length_cons, List.length_nil] at *; omega
      repeat' (first
    | ((show AL _ _ _ _ _ _ _ _; refine Ae Y ?_); (first
      | refine Aq hG Y Y ?_
      | refine A5 hG Y Y ?_
      | (show AOp _ _ ⟨_, .call ⟨.builtin .len, _, _⟩, _, _, _, _⟩ _ _ _; first | refine Br hG Y Y Y Y ?_ | refine Bx hG Y Y Y Y Y ?_)
      | (show AOp _ _ ⟨_, .binOp _ _ _ _ _, _, _, _, _⟩ _ _ _; first | refine Au hG Y Y Y Y Y (by omega) ?_ | refine At hG Y Y Y Y Y (by omega) ?_ | (refine Am hG Y Y Y Y Y (fun h => ?_) (fun h => ?_)))
      | (show AOp _ _ ⟨_, .load _ _, _, _, _, _⟩ _ _ _; first | refine Ak (α := UInt16) 0 hG Y Y Y Y (by omega) Y ?_ | refine Ak (α := UInt16) 1 hG Y Y Y Y (by omega) Y ?_ | refine A8 0 hG Y Y Y Y ?_ | refine A8 1 hG Y Y Y Y ?_)
      | (show AOp _ _ ⟨_, .buildSlice _ _ _, _, _, _, _⟩ _ _ _; first | refine r_mk (sz := 4) hG Y Y Y Y Y Y Y ?_)
      | refine r_build hG Y Y Y Y Y ?_
      | (show AOp _ _ ⟨_, .store _ _ _, _, _, _, _⟩ _ _ _; first | refine A0 (α := UInt16) 0 hG Y Y Y hT_cells hT_sc Y Y (by first | omega | (simp only [Array.size_setIfInBounds]; omega)) ?_ | refine A0 (α := UInt16) 1 hG Y Y Y hT_cells hT_sc Y Y (by first | omega | (simp only [Array.size_setIfInBounds]; omega)) ?_ | refine Bg 0 hG Y Y Y Y Y Y Y ?_ | refine Bg 1 hG Y Y Y Y Y Y Y ?_)
      | (show AOp _ _ ⟨_, .call ⟨.builtin .append, _, _⟩, _, _, _, _⟩ _ _ _; first | refine Cd (sz := 1) (xs := []) hG Y Y Y Y Y Y Y ⟨_, Y⟩ Y Y Y Y Y Y Y (by first | omega | (simp; omega)) (fun k => ?_) | refine r_appm 0 hG Y Y Y Y Y Y Y ⟨_, Y⟩ Y Y Y Y Y (by first | omega | (simp only [List.length_append, List.length_cons, List.length_nil]; omega)) (fun k => ?_) | fail)
      | refine r_q hG Y Y Y ?_))
    | (show AL _ _ _ _ _ _ _ _; first | refine Bj Y Y Y ?_ | (refine Ar ?_; first | show AW _ _ _ _ _ _ | show ∃ x', _ < _ ∧ _)) | (show AW _ _ (.seq _ _) _ _ _; refine Ah ?_; intro Q1) | (show AW _ _ (.region _ _ false) _ _ _; refine Ad ?_; intro O1) | (show AW _ _ (.cond _ _ _) _ _ _; first | refine Ao Y ?_ | refine Ap Y ?_ | refine Bf Y (fun h => ?_) (fun h => ?_)) | (show AW _ _ (.skip) _ _ _; refine Aj ?_; first | show AW _ _ _ _ _ _ | show ∃ x', _ < _ ∧ _) | (show AW _ _ (.ret) _ _ _; refine Av ?_; try dsimp only [A3, Ac, A7, Ag]) | fail)
      have e1 : fidx (s :: l) = (s :: l).length := by unfold fidx; rw [if_pos hfr]
      have e2 : flS (s :: l) = s :: (l ++ [default]) := by unfold flS; rw [if_pos hfr]; rfl
      rw [e1, e2]
      refine ret_onL (Bq rfl Bo) (.refl _) (List.perm_append_comm (l₁ := [(i', _)]) (l₂ := [(p, _), (m, _)])) (.refl _) rfl ⟨i', rfl, ?_⟩
      have e3 : (flat ((s :: l).map sbT)).drop 0 ++ flat [sbT default] = flat ((s :: (l ++ [default])).map sbT) := by
        rw [List.drop_zero, ← flat_append, ← List.cons_append, List.map_append]; rfl
      show _ = (p, Ob.cells [bT v, .aref 4 i' 0 (s :: (l ++ [default])).length none, .map (some m)]) :: (m, _) :: [(i', Ob.cells (flat ((s :: (l ++ [default])).map sbT)))]
      rw [← e3]
      simp only [List.length_cons, List.length_append, List.length_nil]; rfl
    · repeat' (first
    | ((show AL _ _ _ _ _ _ _ _; refine Ae Y ?_); (first
      | refine Aq hG Y Y ?_
      | refine A5 hG Y Y ?_
      | (show AOp _ _ ⟨_, .call ⟨.builtin .len, _, _⟩, _, _, _, _⟩ _ _ _; first | refine Br hG Y Y Y Y ?_ | refine Bx hG Y Y Y Y Y ?_)
      | (show AOp _ _ ⟨_, .binOp _ _ _ _ _, _, _, _, _⟩ _ _ _; first | refine Au hG Y Y Y Y Y (by omega) ?_ | refine At hG Y Y Y Y Y (by omega) ?_ | (refine Am hG Y Y Y Y Y (fun h => ?_) (fun h => ?_)))
      | (show AOp _ _ ⟨_, .load _ _, _, _, _, _⟩ _ _ _; first | refine Ak (α := UInt16) 0 hG Y Y Y Y (by omega) Y ?_ | refine Ak (α := UInt16) 1 hG Y Y Y Y (by omega) Y ?_ | refine A8 0 hG Y Y Y Y ?_ | refine A8 1 hG Y Y Y Y ?_)
      | (show AOp _ _ ⟨_, .buildSlice _ _ _, _, _, _, _⟩ _ _ _; first | refine r_mk (sz := 4) hG Y Y Y Y Y Y Y ?_)
      | refine r_build hG Y Y Y Y Y ?_
      | (show AOp _ _ ⟨_, .store _ _ _, _, _, _, _⟩ _ _ _; first | refine A0 (α := UInt16) 0 hG Y Y Y hT_cells hT_sc Y Y (by first | omega | (simp only [Array.size_setIfInBounds]; omega)) ?_ | refine A0 (α := UInt16) 1 hG Y Y Y hT_cells hT_sc Y Y (by first | omega | (simp only [Array.size_setIfInBounds]; omega)) ?_ | refine Bg 0 hG Y Y Y Y Y Y Y ?_ | refine Bg 1 hG Y Y Y Y Y Y Y ?_)
      | (show AOp _ _ ⟨_, .call ⟨.builtin .append, _, _⟩, _, _, _, _⟩ _ _ _; first | refine Cd (sz := 1) (xs := []) hG Y Y Y Y Y Y Y ⟨_, Y⟩ Y Y Y Y Y Y Y (by first | omega | (simp; omega)) (fun k => ?_) | refine r_appm 0 hG Y Y Y Y Y Y Y ⟨_, Y⟩ Y Y Y Y Y (by first | omega | (simp only [List.length_append, List.length_cons, List.length_nil]; omega)) (fun k => ?_) | fail)
      | refine r_q hG Y Y Y ?_))
    | (show AL _ _ _ _ _ _ _ _; first | refine Bj Y Y Y ?_ | (refine Ar ?_; first | show AW _ _ _ _ _ _ | show ∃ x', _ < _ ∧ _)) | (show AW _ _ (.seq _ _) _ _ _; refine Ah ?_; intro Q1) | (show AW _ _ (.region _ _ false) _ _ _; refine Ad ?_; intro O1) | (show AW _ _ (.cond _ _ _) _ _ _; first | refine Ao Y ?_ | refine Ap Y ?_ | refine Bf Y (fun h => ?_) (fun h => ?_)) | (show AW _ _ (.skip) _ _ _; refine Aj ?_; first | show AW _ _ _ _ _ _ | show ∃ x', _ < _ ∧ _) | (show AW _ _ (.ret) _ _ _; refine Av ?_; try dsimp only [A3, Ac, A7, Ag]) | fail)
      have e1 : ((fidx (s :: l) : Nat) : Int) = freeI (s :: l) 0 := by unfold fidx; rw [if_neg hfr]; omega
      have e2 : flS (s :: l) = s :: l := by unfold flS; rw [if_neg hfr]
      rw [e1, e2]
      exact ret_onL (Bq rfl Bo) (.refl _) (List.perm_append_comm (l₁ := [(i, _)]) (l₂ := [(p, _), (m, _)])) (.refl _) rfl ⟨i, rfl, rfl⟩
end Go.Proofs.Ythfgocinlbogeaa
namespace Go.Proofs.Ythfgocinlbogeaa
open Go.Ts
set_option linter.unusedSimpArgs false
set_option linter.unusedVariables false
set_option linter.unnecessarySimpa false
attribute [local irreducible] Go.Ts.AW Go.Ts.AOps Go.Ts.AL Go.Ts.AOp Go.Ts.ACalls Go.Ts.DL Go.Ts.DQ0 Go.Ts.EL
def putsB (v : UInt8) (b : List UInt8) : Bool := decide (0 < b.length) && decide (b.getD 0 default = v)
theorem arena_Put_no (v : UInt8) (l : List SB) (at' : List (Nat × Int)) {id : Nat} {b : List UInt8} (hb : b.length ≤ 4294967296) (h : putsB v b = false) (p i m : Nat) : OnL Try.prog 32 [.ptr p 0, .int .u64 (id : Int), sT b] (arL v l at' p i m) (fun u L => u = .int .i64 1 ∧ L = arL v l at' p i m) := by
  unfold putsB at h
  intro off
  by_cases h0 : 0 < b.length
  · rw [decide_eq_true h0, Bool.true_and] at h
    have h1 : ¬ b.getD 0 default = v := of_decide_eq_false h
    have h2 : ¬ (((b.getD 0 default).toNat : Int) = ((v.toNat : Nat) : Int)) := fun e => h1 (UInt8.toNat_inj.1 (by omega))
    refine Bp (N := 73) (rs := [.tmp 6]) hG Try.func32 rfl rfl rfl rfl rfl ?_
    repeat' (first
    | ((first | (show AL _ _ _ _ _ _ _ _; refine Ae Y ?_) | (show DL _ _ _ _ _ _ _; refine' A6 Y Y (fun K kk => ?_) ?_; try (show Go.Ts.T; rotate_left))); (first
      | refine Aq hG Y Y ?_
      | refine A5 hG Y Y ?_
      | (show AOp _ _ ⟨_, .call ⟨.builtin .len, _, _⟩, _, _, _, _⟩ _ _ _; first | refine Br hG Y Y Y Y ?_ | refine Bx hG Y Y Y Y Y ?_)
      | (show AOp _ _ ⟨_, .lookup _ _ _ _, _, _, _, _⟩ _ _ _; first | refine r_lookF hG Y Y Y Y Y Y Y Y Y ?_ | refine r_lookFo hG Y Y Y Y Y Y Y Y Y ?_ | refine B8 (n := 0) hG Y Y Y Y Y Y Y Y Y Y ?_ | refine B8 (n := 1) hG Y Y Y Y Y Y Y Y Y Y ?_)
      | (show AOp _ _ ⟨_, .mapUpdate _ _ _ _, _, _, _, _⟩ _ _ _; first | refine r_updL 0 hG Y Y Y Y Y Y Y Y ?_ | refine r_updL 1 hG Y Y Y Y Y Y Y Y ?_)
      | (show AOp _ _ ⟨_, .binOp .add _ _ _ _, _, _, _, _⟩ _ _ _; first | refine Ab hG Y Y Y Y Y (by omega) ?_ | refine Ab (m := 1) hG Y Y Y Y Y (by omega) ?_ | refine Aa hG Y Y Y Y Y (by omega) ?_)
      | (show AOp _ _ ⟨_, .binOp _ _ _ _ _, _, _, _, _⟩ _ _ _; first | refine Au hG Y Y Y Y Y (by omega) ?_ | refine At hG Y Y Y Y Y (by omega) ?_ | ((fail_if_success have := kk); refine Am hG Y Y Y Y Y (fun h => ?_) (fun h => ?_)) | refine Bl hG Y Y Y ?_ | refine Bv hG Y Y Y Y ?_)
      | (show AOp _ _ ⟨_, .load _ _, _, _, _, _⟩ _ _ _; first | refine A2 0 sbT hG Y Y Y Y Y (by omega) Y ?_ | refine A1 0 sbT hG Y Y Y Y Y (by omega) Y ?_ | refine A2 1 sbT hG Y Y Y Y Y (by omega) Y ?_ | refine A1 1 sbT hG Y Y Y Y Y (by omega) Y ?_ | refine A2 2 sbT hG Y Y Y Y Y (by omega) Y ?_ | refine A1 2 sbT hG Y Y Y Y Y (by omega) Y ?_ | refine A2 3 sbT hG Y Y Y Y Y (by omega) Y ?_ | refine A1 3 sbT hG Y Y Y Y Y (by omega) Y ?_ | refine Ak (α := UInt16) 0 hG Y Y Y Y (by omega) Y ?_ | refine Ak (α := UInt16) 1 hG Y Y Y Y (by omega) Y ?_ | refine Ay hG Y Y Y ?_ | refine A8 0 hG Y Y Y Y ?_ | refine A8 1 hG Y Y Y Y ?_)
      | (show AOp _ _ ⟨_, .indexAddr _ _ _, _, _, _, _⟩ _ _ _; first | refine Bw (sz := 4) hG Y Y Y Y Y Y Y (by omega) ?_ | refine A4 hG Y Y Y Y Y Y Y (by omega) ?_ | refine r_idx0 hG Y Y Y Y Y Y Y ?_ | refine Az hG Y Y Y Y Y Y Y (by omega) ?_ | refine Ax hG Y Y Y Y Y Y Y (by omega) ?_ | refine Bb hG Y Y ?_)
      | refine Bc hG Y Y Y ?_
      | refine Bn hG Y Y Y ?_
      | refine r_build hG Y Y Y Y Y ?_
      | (show AOp _ _ ⟨_, .store _ _ _, _, _, _, _⟩ _ _ _; first | refine A0 (α := UInt16) 0 hG Y Y Y hT_cells hT_sc Y Y (by first | omega | (simp only [Array.size_setIfInBounds]; omega)) ?_ | refine A0 (α := UInt16) 1 hG Y Y Y hT_cells hT_sc Y Y (by first | omega | (simp only [Array.size_setIfInBounds]; omega)) ?_ | refine Bg 0 hG Y Y Y Y Y Y Y ?_ | refine Bg 1 hG Y Y Y Y Y Y Y ?_)
      | refine r_q hG Y Y Y ?_); try exact kk)
    | (show AL _ _ _ _ _ _ _ _; first | refine Bj Y Y Y ?_ | (refine Ar ?_; first | show AW _ _ _ _ _ _ | show ∃ x', _ < _ ∧ _)) | (show AW _ _ (.seq _ _) _ _ _; refine Ah ?_; intro Q1) | (show AW _ _ (.region _ _ false) _ _ _; refine Ad ?_; intro O1) | (show AW _ _ (.cond _ _ _) _ _ _; first | refine Ao Y ?_ | refine Ap Y ?_ | refine Bf Y (fun h => ?_) (fun h => ?_)) | (show AW _ _ (.skip) _ _ _; refine Aj ?_; first | show AW _ _ _ _ _ _ | show ∃ x', _ < _ ∧ _) | (show AW _ _ (.ret) _ _ _; refine Av ?_; try dsimp only [A3, Ac, A7, Ag])
    | (show DL _ _ _ _ _ _ _; refine Bt Y Y (fun K kt kf => Am hG Y Y Y Y Y kt kf) (fun h => ?_) (fun h => ?_))
    | (show DL _ _ _ _ _ _ _; refine Bu Y Y Y ?_) | (show DL _ _ _ _ _ _ _; refine Bd ?_; first | show AW _ _ _ _ _ _ | show ∃ x', _ < _ ∧ _) | (show AW _ _ (.region _ _ true) _ _ _; refine Aw mix (by kernel_rfl) ?_; intro O1) | fail)
    exact ret_onL (Bq rfl Bo) (.refl _) (.refl _) (.refl _) rfl ⟨rfl, rfl⟩
  · refine Bp (N := 73) (rs := [.tmp 6]) hG Try.func32 rfl rfl rfl rfl rfl ?_
    repeat' (first
    | ((first | (show AL _ _ _ _ _ _ _ _; refine Ae Y ?_) | (show DL _ _ _ _ _ _ _; refine' A6 Y Y (fun K kk => ?_) ?_; try (show Go.Ts.T; rotate_left))); (first
      | refine Aq hG Y Y ?_
      | refine A5 hG Y Y ?_
      | (show AOp _ _ ⟨_, .call ⟨.builtin .len, _, _⟩, _, _, _, _⟩ _ _ _; first | refine Br hG Y Y Y Y ?_ | refine Bx hG Y Y Y Y Y ?_)
      | (show AOp _ _ ⟨_, .lookup _ _ _ _, _, _, _, _⟩ _ _ _; first | refine r_lookF hG Y Y Y Y Y Y Y Y Y ?_ | refine r_lookFo hG Y Y Y Y Y Y Y Y Y ?_ | refine B8 (n := 0) hG Y Y Y Y Y Y Y Y Y Y ?_ | refine B8 (n := 1) hG Y Y Y Y Y Y Y Y Y Y ?_)
      | (show AOp _ _ ⟨_, .mapUpdate _ _ _ _, _, _, _, _⟩ _ _ _; first | refine r_updL 0 hG Y Y Y Y Y Y Y Y ?_ | refine r_updL 1 hG Y Y Y Y Y Y Y Y ?_)
      | (show AOp _ _ ⟨_, .binOp .add _ _ _ _, _, _, _, _⟩ _ _ _; first | refine Ab hG Y Y Y Y Y (by omega) ?_ | refine Ab (m := 1) hG Y Y Y Y Y (by omega) ?_ | refine Aa hG Y Y Y Y Y (by omega) ?_)
      | (show AOp _ _ ⟨_, .binOp _ _ _ _ _, _, _, _, _⟩ _ _ _; first | refine Au hG Y Y Y Y Y (by omega) ?_ | refine At hG Y Y Y Y Y (by omega) ?_ | ((fail_if_success have := kk); refine Am hG Y Y Y Y Y (fun h => ?_) (fun h => ?_)) | refine Bl hG Y Y Y ?_ | refine Bv hG Y Y Y Y ?_)
      | (show AOp _ _ ⟨_, .load _ _, _, _, _, _⟩ _ _ _; first | refine A2 0 sbT hG Y Y Y Y Y (by omega) Y ?_ | refine A1 0 sbT hG Y Y Y Y Y (by omega) Y ?_ | refine A2 1 sbT hG Y Y Y Y Y (by omega) Y ?_ | refine A1 1 sbT hG Y Y Y Y Y (by omega) Y ?_ | refine A2 2 sbT hG Y Y Y Y Y (by omega) Y ?_ | refine A1 2 sbT hG Y Y Y Y Y (by omega) Y ?_ | refine A2 3 sbT hG Y Y Y Y Y (by omega) Y ?_ | refine A1 3 sbT hG Y Y Y Y Y (by omega) Y ?_ | refine Ak (α := UInt16) 0 hG Y Y Y Y (by omega) Y ?_ | refine Ak (α := UInt16) 1 hG Y Y Y Y (by omega) Y ?_ | refine Ay hG Y Y Y ?_ | refine A8 0 hG Y Y Y Y ?_ | refine A8 1 hG Y Y Y Y ?_)
      | (show AOp _ _ ⟨_, .indexAddr _ _ _, _, _, _, _⟩ _ _ _; first | refine Bw (sz := 4) hG Y Y Y Y Y Y Y (by omega) ?_ | refine A4 hG Y Y Y Y Y Y Y (by omega) ?_ | refine r_idx0 hG Y Y Y Y Y Y Y ?_ | refine Az hG Y Y Y Y Y Y Y (by omega) ?_ | refine Ax hG Y Y Y Y Y Y Y (by omega) ?_ | refine Bb hG Y Y ?_)
      | refine Bc hG Y Y Y ?_
      | refine Bn hG Y Y Y ?_
      | refine r_build hG Y Y Y Y Y ?_
      | (show AOp _ _ ⟨_, .store _ _ _, _, _, _, _⟩ _ _ _; first | refine A0 (α := UInt16) 0 hG Y Y Y hT_cells hT_sc Y Y (by first | omega | (simp only [Array.size_setIfInBounds]; omega)) ?_ | refine A0 (α := UInt16) 1 hG Y Y Y hT_cells hT_sc Y Y (by first | omega | (simp only [Array.size_setIfInBounds]; omega)) ?_ | refine Bg 0 hG Y Y Y Y Y Y Y ?_ | refine Bg 1 hG Y Y Y Y Y Y Y ?_)
      | refine r_q hG Y Y Y ?_); try exact kk)
    | (show AL _ _ _ _ _ _ _ _; first | refine Bj Y Y Y ?_ | (refine Ar ?_; first | show AW _ _ _ _ _ _ | show ∃ x', _ < _ ∧ _)) | (show AW _ _ (.seq _ _) _ _ _; refine Ah ?_; intro Q1) | (show AW _ _ (.region _ _ false) _ _ _; refine Ad ?_; intro O1) | (show AW _ _ (.cond _ _ _) _ _ _; first | refine Ao Y ?_ | refine Ap Y ?_ | refine Bf Y (fun h => ?_) (fun h => ?_)) | (show AW _ _ (.skip) _ _ _; refine Aj ?_; first | show AW _ _ _ _ _ _ | show ∃ x', _ < _ ∧ _) | (show AW _ _ (.ret) _ _ _; refine Av ?_; try dsimp only [A3, Ac, A7, Ag])
    | (show DL _ _ _ _ _ _ _; refine Bt Y Y (fun K kt kf => Am hG Y Y Y Y Y kt kf) (fun h => ?_) (fun h => ?_))
    | (show DL _ _ _ _ _ _ _; refine Bu Y Y Y ?_) | (show DL _ _ _ _ _ _ _; refine Bd ?_; first | show AW _ _ _ _ _ _ | show ∃ x', _ < _ ∧ _) | (show AW _ _ (.region _ _ true) _ _ _; refine Aw mix (by kernel_rfl) ?_; intro O1) | fail)
    exact ret_onL (Bq rfl Bo) (.refl _) (.refl _) (.refl _) rfl ⟨rfl, rfl⟩
def bump (s : SB) (id : Nat) (hid : id < 18446744073709551616) (b : List UInt8) : SB := ⟨id, b, true, IntKind.i64.wrap (s.turn + 1), hid⟩
theorem slT_ne : ∀ {l : List SB} {i : Nat}, l ≠ [] → slT l i = .aref 4 i 0 l.length none
  | [], _, h => absurd rfl h
  | _ :: _, _, _ => rfl
theorem rowOf_ne : ∀ {l : List SB} {i : Nat}, l ≠ [] → rowOf l i = [(i, .cells (flat (l.map sbT)))]
  | [], _, h => absurd rfl h
  | _ :: _, _, _ => rfl
theorem freeI_lt : ∀ (l : List SB) (i : Nat), freeI l i < ((i + l.length : Nat) : Int)
  | [], i => by simp [freeI]; omega
  | s :: l, i => by
    rw [freeI]; split
    · have := freeI_lt l (i + 1)
      simp only [List.length_cons]; omega
    · simp only [List.length_cons]; omega
theorem fidx_lt (l : List SB) : fidx l < (flS l).length ∧ (flS l).length ≤ l.length + 1 := by
  have := freeI_lt l 0
  unfold fidx flS
  split <;> simp <;> omega
theorem arena_Put_old (v : UInt8) (l : List SB) (at' : List (Nat × Int)) {id j : Nat} {b : List UInt8} (hid : id < 18446744073709551616) (hb : b.length ≤ 4294967296) (h : putsB v b = true) (hk : khas at' id = true) (hj : klook at' id = ((j : Nat) : Int)) (hjl : j < l.length) (hl : l.length ≤ 1000000) (p i m : Nat) :
    OnL Try.prog 32 [.ptr p 0, .int .u64 (id : Int), sT b] (arL v l at' p i m) (fun u L => u = .int .i64 0 ∧ L = arL v (l.set j (bump (l.getD j default) id hid b)) at' p i m) := by
  unfold putsB at h
  rw [Bool.and_eq_true, decide_eq_true_eq, decide_eq_true_eq] at h
  obtain ⟨h0, h1⟩ := h
  have h2 : ((b.getD 0 default).toNat : Int) = ((v.toNat : Nat) : Int) := by rw [h1]
  have hc := clone_p hb
  cases l with
  | nil => simp at hjl
  | cons s l =>
    intro off
    refine Bp (N := 73) (rs := [.tmp 6]) hG Try.func32 rfl rfl rfl rfl rfl ?_
    repeat' (first
    | ((first | (show AL _ _ _ _ _ _ _ _; refine Ae Y ?_) | (show DL _ _ _ _ _ _ _; refine' A6 Y Y (fun K kk => ?_) ?_; try (show Go.Ts.T; rotate_left))); (first
      | refine Aq hG Y Y ?_
      | refine A5 hG Y Y ?_
      | (show AOp _ _ ⟨_, .call ⟨.builtin .len, _, _⟩, _, _, _, _⟩ _ _ _; first | refine Br hG Y Y Y Y ?_ | refine Bx hG Y Y Y Y Y ?_)
      | (show AOp _ _ ⟨_, .lookup _ _ _ _, _, _, _, _⟩ _ _ _; fail)
      | (show AOp _ _ ⟨_, .mapUpdate _ _ _ _, _, _, _, _⟩ _ _ _; first | refine r_updL 0 hG Y Y Y Y Y Y Y Y ?_ | refine r_updL 1 hG Y Y Y Y Y Y Y Y ?_)
      | (show AOp _ _ ⟨_, .binOp .add _ _ _ _, _, _, _, _⟩ _ _ _; first | refine Ab hG Y Y Y Y Y (by omega) ?_ | refine Ab (m := 1) hG Y Y Y Y Y (by omega) ?_ | refine Aa hG Y Y Y Y Y (by omega) ?_)
      | (show AOp _ _ ⟨_, .binOp _ _ _ _ _, _, _, _, _⟩ _ _ _; first | refine Au hG Y Y Y Y Y (by omega) ?_ | refine At hG Y Y Y Y Y (by omega) ?_ | ((fail_if_success have := kk); refine Am hG Y Y Y Y Y (fun h => ?_) (fun h => ?_)) | refine Bl hG Y Y Y ?_ | refine Bv hG Y Y Y Y ?_)
      | (show AOp _ _ ⟨_, .load _ _, _, _, _, _⟩ _ _ _; first | refine A2 0 sbT hG Y Y Y Y Y (by omega) Y ?_ | refine A1 0 sbT hG Y Y Y Y Y (by omega) Y ?_ | refine A2 1 sbT hG Y Y Y Y Y (by omega) Y ?_ | refine A1 1 sbT hG Y Y Y Y Y (by omega) Y ?_ | refine A2 2 sbT hG Y Y Y Y Y (by omega) Y ?_ | refine A1 2 sbT hG Y Y Y Y Y (by omega) Y ?_ | refine A2 3 sbT hG Y Y Y Y Y (by omega) Y ?_ | refine A1 3 sbT hG Y Y Y Y Y (by omega) Y ?_ | refine Ak (α := UInt16) 0 hG Y Y Y Y (by omega) Y ?_ | refine Ak (α := UInt16) 1 hG Y Y Y Y (by omega) Y ?_ | refine Ay hG Y Y Y ?_ | refine A8 0 hG Y Y Y Y ?_ | refine A8 1 hG Y Y Y Y ?_)
      | (show AOp _ _ ⟨_, .indexAddr _ _ _, _, _, _, _⟩ _ _ _; first | refine Bw (sz := 4) hG Y Y Y Y Y Y Y (by omega) ?_ | refine A4 hG Y Y Y Y Y Y Y (by omega) ?_ | refine r_idx0 hG Y Y Y Y Y Y Y ?_ | refine Az hG Y Y Y Y Y Y Y (by omega) ?_ | refine Ax hG Y Y Y Y Y Y Y (by omega) ?_ | refine Bb hG Y Y ?_)
      | refine Bc hG Y Y Y ?_
      | refine Bn hG Y Y Y ?_
      | refine r_build hG Y Y Y Y Y ?_
      | (show AOp _ _ ⟨_, .store _ _ _, _, _, _, _⟩ _ _ _; first | refine A0 (α := UInt16) 0 hG Y Y Y hT_cells hT_sc Y Y (by first | omega | (simp only [Array.size_setIfInBounds]; omega)) ?_ | refine A0 (α := UInt16) 1 hG Y Y Y hT_cells hT_sc Y Y (by first | omega | (simp only [Array.size_setIfInBounds]; omega)) ?_ | refine Bg 0 hG Y Y Y Y Y Y Y ?_ | refine Bg 1 hG Y Y Y Y Y Y Y ?_)
      | (show AOp _ _ ⟨_, .call ⟨.value _, _, _⟩, _, _, _, _⟩ _ _ _; first | refine B0 Y Y Y Y Y (by first | (apply hc <;> (first | assumption | omega | exact Ba _ _ | exact Bi _ | exact Bk _ _ | exact Bs _ | rfl | (simp; omega))) | fail) ?_ | fail)
      | refine r_q hG Y Y Y ?_); try exact kk)
    | (show AL _ _ _ _ _ _ _ _; first | refine Bj Y Y Y ?_ | (refine Ar ?_; first | show AW _ _ _ _ _ _ | show ∃ x', _ < _ ∧ _)) | (show AW _ _ (.seq _ _) _ _ _; refine Ah ?_; intro Q1) | (show AW _ _ (.region _ _ false) _ _ _; refine Ad ?_; intro O1) | (show AW _ _ (.cond _ _ _) _ _ _; first | refine Ao Y ?_ | refine Ap Y ?_ | refine Bf Y (fun h => ?_) (fun h => ?_)) | (show AW _ _ (.skip) _ _ _; refine Aj ?_; first | show AW _ _ _ _ _ _ | show ∃ x', _ < _ ∧ _) | (show AW _ _ (.ret) _ _ _; refine Av ?_; try dsimp only [A3, Ac, A7, Ag])
    | (show DL _ _ _ _ _ _ _; refine Bt Y Y (fun K kt kf => Am hG Y Y Y Y Y kt kf) (fun h => ?_) (fun h => ?_))
    | (show DL _ _ _ _ _ _ _; refine Bu Y Y Y ?_) | (show DL _ _ _ _ _ _ _; refine Bd ?_; first | show AW _ _ _ _ _ _ | show ∃ x', _ < _ ∧ _) | (show AW _ _ (.region _ _ true) _ _ _; refine Aw mix (by kernel_rfl) ?_; intro O1) | fail)
    · exact absurd h2 h
    refine Ae rfl (r_lookLo (n := 1) hj hk hG rfl rfl rfl rfl rfl rfl rfl rfl rfl rfl ?_)
    repeat' (first
    | ((first | (show AL _ _ _ _ _ _ _ _; refine Ae Y ?_) | (show DL _ _ _ _ _ _ _; refine' A6 Y Y (fun K kk => ?_) ?_; try (show Go.Ts.T; rotate_left))); (first
      | refine Aq hG Y Y ?_
      | refine A5 hG Y Y ?_
      | (show AOp _ _ ⟨_, .call ⟨.builtin .len, _, _⟩, _, _, _, _⟩ _ _ _; first | refine Br hG Y Y Y Y ?_ | refine Bx hG Y Y Y Y Y ?_)
      | (show AOp _ _ ⟨_, .lookup _ _ _ _, _, _, _, _⟩ _ _ _; first | refine r_lookF hG Y Y Y Y Y Y Y Y Y ?_ | refine r_lookFo hG Y Y Y Y Y Y Y Y Y ?_ | refine B8 (n := 0) hG Y Y Y Y Y Y Y Y Y Y ?_ | refine B8 (n := 1) hG Y Y Y Y Y Y Y Y Y Y ?_)
      | (show AOp _ _ ⟨_, .mapUpdate _ _ _ _, _, _, _, _⟩ _ _ _; first | refine r_updL 0 hG Y Y Y Y Y Y Y Y ?_ | refine r_updL 1 hG Y Y Y Y Y Y Y Y ?_)
      | (show AOp _ _ ⟨_, .binOp .add _ _ _ _, _, _, _, _⟩ _ _ _; first | refine Ab hG Y Y Y Y Y (by omega) ?_ | refine Ab (m := 1) hG Y Y Y Y Y (by omega) ?_ | refine Aa hG Y Y Y Y Y (by omega) ?_)
      | (show AOp _ _ ⟨_, .binOp _ _ _ _ _, _, _, _, _⟩ _ _ _; first | refine Au hG Y Y Y Y Y (by omega) ?_ | refine At hG Y Y Y Y Y (by omega) ?_ | ((fail_if_success have := kk); refine Am hG Y Y Y Y Y (fun h => ?_) (fun h => ?_)) | refine Bl hG Y Y Y ?_ | refine Bv hG Y Y Y Y ?_)
      | (show AOp _ _ ⟨_, .load _ _, _, _, _, _⟩ _ _ _; first | refine A2 0 sbT hG Y Y Y Y Y (by omega) Y ?_ | refine A1 0 sbT hG Y Y Y Y Y (by omega) Y ?_ | refine A2 1 sbT hG Y Y Y Y Y (by omega) Y ?_ | refine A1 1 sbT hG Y Y Y Y Y (by omega) Y ?_ | refine A2 2 sbT hG Y Y Y Y Y (by omega) Y ?_ | refine A1 2 sbT hG Y Y Y Y Y (by omega) Y ?_ | refine A2 3 sbT hG Y Y Y Y Y (by omega) Y ?_ | refine A1 3 sbT hG Y Y Y Y Y (by omega) Y ?_ | refine Ak (α := UInt16) 0 hG Y Y Y Y (by omega) Y ?_ | refine Ak (α := UInt16) 1 hG Y Y Y Y (by omega) Y ?_ | refine Ay hG Y Y Y ?_ | refine A8 0 hG Y Y Y Y ?_ | refine A8 1 hG Y Y Y Y ?_)
      | (show AOp _ _ ⟨_, .indexAddr _ _ _, _, _, _, _⟩ _ _ _; first | refine Bw (sz := 4) hG Y Y Y Y Y Y Y (by omega) ?_ | refine A4 hG Y Y Y Y Y Y Y (by omega) ?_ | refine r_idx0 hG Y Y Y Y Y Y Y ?_ | refine Az hG Y Y Y Y Y Y Y (by omega) ?_ | refine Ax hG Y Y Y Y Y Y Y (by omega) ?_ | refine Bb hG Y Y ?_)
      | refine Bc hG Y Y Y ?_
      | refine Bn hG Y Y Y ?_
      | refine r_build hG Y Y Y Y Y ?_
      | (show AOp _ _ ⟨_, .store _ _ _, _, _, _, _⟩ _ _ _; first | refine A0 (α := UInt16) 0 hG Y Y Y hT_cells hT_sc Y Y (by first | omega | (simp only [Array.size_setIfInBounds]; omega)) ?_ | refine A0 (α := UInt16) 1 hG Y Y Y hT_cells hT_sc Y Y (by first | omega | (simp only [Array.size_setIfInBounds]; omega)) ?_ | refine Bg 0 hG Y Y Y Y Y Y Y ?_ | refine Bg 1 hG Y Y Y Y Y Y Y ?_)
      | (show AOp _ _ ⟨_, .call ⟨.value _, _, _⟩, _, _, _, _⟩ _ _ _; first | refine B0 Y Y Y Y Y (by first | (apply hc <;> (first | assumption | omega | exact Ba _ _ | exact Bi _ | exact Bk _ _ | exact Bs _ | rfl | (simp; omega))) | fail) ?_ | fail)
      | refine r_q hG Y Y Y ?_); try exact kk)
    | (show AL _ _ _ _ _ _ _ _; first | refine Bj Y Y Y ?_ | (refine Ar ?_; first | show AW _ _ _ _ _ _ | show ∃ x', _ < _ ∧ _)) | (show AW _ _ (.seq _ _) _ _ _; refine Ah ?_; intro Q1) | (show AW _ _ (.region _ _ false) _ _ _; (fail_if_success show AW _ _ (.region 9 _ _) _ _ _); refine Ad ?_; intro O1) | (show AW _ _ (.cond _ _ _) _ _ _; first | refine Ao Y ?_ | refine Ap Y ?_ | refine Bf Y (fun h => ?_) (fun h => ?_)) | (show AW _ _ (.skip) _ _ _; refine Aj ?_; first | show AW _ _ _ _ _ _ | show ∃ x', _ < _ ∧ _) | (show AW _ _ (.ret) _ _ _; refine Av ?_; try dsimp only [A3, Ac, A7, Ag])
    | (show DL _ _ _ _ _ _ _; refine Bt Y Y (fun K kt kf => Am hG Y Y Y Y Y kt kf) (fun h => ?_) (fun h => ?_))
    | (show DL _ _ _ _ _ _ _; refine Bu Y Y Y ?_) | (show DL _ _ _ _ _ _ _; refine Bd ?_; first | show AW _ _ _ _ _ _ | show ∃ x', _ < _ ∧ _) | (show AW _ _ (.region _ _ true) _ _ _; (fail_if_success show AW _ _ (.region 9 _ _) _ _ _); refine Aw mix (by kernel_rfl) ?_; intro O1) | fail)
    refine aw_drawE' (m := 18) [] (fun σ => ∃ m', σ = ⟨(p, .cells [bT v, .aref 4 i 0 (s :: l).length none, .map (some m)]) :: (m', .map (at'.map kvT)) :: [(i, .cells (flat ((s :: l).map sbT)))], [], off, none⟩) mix rfl (by repeat (first | exact Sp.zero _ | apply Sp.succ)) ?_; intro O1 F1 Z1 Q2
    repeat' (first
    | (refine' dq_cons Y Y Y (fun σ hσ K kk => ?_) ?_; (try (show Go.Ts.T; rotate_left)); (obtain ⟨R, rfl⟩ := hσ); (first
      | refine Aq hG Y Y ?_
      | refine A5 hG Y Y ?_
      | (show AOp _ _ ⟨_, .call ⟨.builtin .len, _, _⟩, _, _, _, _⟩ _ _ _; first | refine Br hG Y Y Y Y ?_ | refine Bx hG Y Y Y Y Y ?_)
      | (show AOp _ _ ⟨_, .lookup _ _ _ _, _, _, _, _⟩ _ _ _; first | refine r_lookF hG Y Y Y Y Y Y Y Y Y ?_ | refine r_lookFo hG Y Y Y Y Y Y Y Y Y ?_ | refine B8 (n := 0) hG Y Y Y Y Y Y Y Y Y Y ?_ | refine B8 (n := 1) hG Y Y Y Y Y Y Y Y Y Y ?_)
      | (show AOp _ _ ⟨_, .mapUpdate _ _ _ _, _, _, _, _⟩ _ _ _; first | refine r_updL 0 hG Y Y Y Y Y Y Y Y ?_ | refine r_updL 1 hG Y Y Y Y Y Y Y Y ?_)
      | (show AOp _ _ ⟨_, .binOp .add _ _ _ _, _, _, _, _⟩ _ _ _; first | refine Ab hG Y Y Y Y Y (by omega) ?_ | refine Ab (m := 1) hG Y Y Y Y Y (by omega) ?_ | refine Aa hG Y Y Y Y Y (by omega) ?_)
      | (show AOp _ _ ⟨_, .binOp _ _ _ _ _, _, _, _, _⟩ _ _ _; first | refine Au hG Y Y Y Y Y (by omega) ?_ | refine At hG Y Y Y Y Y (by omega) ?_ | refine Bl hG Y Y Y ?_ | refine Bv hG Y Y Y Y ?_)
      | (show AOp _ _ ⟨_, .load _ _, _, _, _, _⟩ _ _ _; first | refine A2 0 sbT hG Y Y Y Y Y (by omega) Y ?_ | refine A1 0 sbT hG Y Y Y Y Y (by omega) Y ?_ | refine A2 1 sbT hG Y Y Y Y Y (by omega) Y ?_ | refine A1 1 sbT hG Y Y Y Y Y (by omega) Y ?_ | refine A2 2 sbT hG Y Y Y Y Y (by omega) Y ?_ | refine A1 2 sbT hG Y Y Y Y Y (by omega) Y ?_ | refine A2 3 sbT hG Y Y Y Y Y (by omega) Y ?_ | refine A1 3 sbT hG Y Y Y Y Y (by omega) Y ?_ | refine Ak (α := UInt16) 0 hG Y Y Y Y (by omega) Y ?_ | refine Ak (α := UInt16) 1 hG Y Y Y Y (by omega) Y ?_ | refine Ay hG Y Y Y ?_ | refine A8 0 hG Y Y Y Y ?_ | refine A8 1 hG Y Y Y Y ?_)
      | (show AOp _ _ ⟨_, .indexAddr _ _ _, _, _, _, _⟩ _ _ _; first | refine Bw (sz := 4) hG Y Y Y Y Y Y Y (by omega) ?_ | refine A4 hG Y Y Y Y Y Y Y (by omega) ?_ | refine r_idx0 hG Y Y Y Y Y Y Y ?_ | refine Az hG Y Y Y Y Y Y Y (by omega) ?_ | refine Ax hG Y Y Y Y Y Y Y (by omega) ?_ | refine Bb hG Y Y ?_)
      | refine Bc hG Y Y Y ?_
      | refine Bn hG Y Y Y ?_
      | refine r_build hG Y Y Y Y Y ?_
      | (show AOp _ _ ⟨_, .store _ _ _, _, _, _, _⟩ _ _ _; first | refine A0 (α := UInt16) 0 hG Y Y Y hT_cells hT_sc Y Y (by first | omega | (simp only [Array.size_setIfInBounds]; omega)) ?_ | refine A0 (α := UInt16) 1 hG Y Y Y hT_cells hT_sc Y Y (by first | omega | (simp only [Array.size_setIfInBounds]; omega)) ?_ | refine Bg 0 hG Y Y Y Y Y Y Y ?_ | refine Bg 1 hG Y Y Y Y Y Y Y ?_)
      | (show AOp _ _ ⟨_, .call ⟨.value _, _, _⟩, _, _, _, _⟩ _ _ _; first | refine B0 Y Y Y Y Y (by first | (apply hc <;> (first | assumption | omega | exact Ba _ _ | exact Bi _ | exact Bk _ _ | exact Bs _ | rfl | (simp; omega))) | fail) ?_ | fail)
      | refine r_q hG Y Y Y ?_); exact kk)
    | refine dq_d Y Y Y (fun σ hσ K kt kf => by obtain ⟨R, rfl⟩ := hσ; exact Am hG Y Y Y Y Y kt kf) (fun h => ?_) (fun h => ?_)
    | refine dq_d Y Y Y (fun σ hσ K kt kf => by obtain ⟨R, rfl⟩ := hσ; exact r_str hG Y Y Y Y kt kf) (fun h => ?_) (fun h => ?_)
    | refine dq_s Y Y Y Y ?_ | refine dq_e Y ?_ | (refine dq_nil ?_; show EL _ _ _ _ _ _ _ _ _) | refine el_s ⟨_, Y⟩ Y Y Y Y ?_
    | ((first | refine el_cons ⟨_, Y⟩ Y Y Y (fun K ke => ?_) | refine Ch ⟨_, Y⟩ Y Y Y (fun K ke => ?_)); (first
      | refine Aq hG Y Y ?_
      | refine A5 hG Y Y ?_
      | (show AOp _ _ ⟨_, .call ⟨.builtin .len, _, _⟩, _, _, _, _⟩ _ _ _; first | refine Br hG Y Y Y Y ?_ | refine Bx hG Y Y Y Y Y ?_)
      | (show AOp _ _ ⟨_, .lookup _ _ _ _, _, _, _, _⟩ _ _ _; first | refine r_lookF hG Y Y Y Y Y Y Y Y Y ?_ | refine r_lookFo hG Y Y Y Y Y Y Y Y Y ?_ | refine B8 (n := 0) hG Y Y Y Y Y Y Y Y Y Y ?_ | refine B8 (n := 1) hG Y Y Y Y Y Y Y Y Y Y ?_)
      | (show AOp _ _ ⟨_, .mapUpdate _ _ _ _, _, _, _, _⟩ _ _ _; first | refine r_updL 0 hG Y Y Y Y Y Y Y Y ?_ | refine r_updL 1 hG Y Y Y Y Y Y Y Y ?_)
      | (show AOp _ _ ⟨_, .binOp .add _ _ _ _, _, _, _, _⟩ _ _ _; first | refine Ab hG Y Y Y Y Y (by omega) ?_ | refine Ab (m := 1) hG Y Y Y Y Y (by omega) ?_ | refine Aa hG Y Y Y Y Y (by omega) ?_)
      | (show AOp _ _ ⟨_, .binOp _ _ _ _ _, _, _, _, _⟩ _ _ _; first | refine Au hG Y Y Y Y Y (by omega) ?_ | refine At hG Y Y Y Y Y (by omega) ?_ | refine Bl hG Y Y Y ?_ | refine Bv hG Y Y Y Y ?_)
      | (show AOp _ _ ⟨_, .load _ _, _, _, _, _⟩ _ _ _; first | refine A2 0 sbT hG Y Y Y Y Y (by omega) Y ?_ | refine A1 0 sbT hG Y Y Y Y Y (by omega) Y ?_ | refine A2 1 sbT hG Y Y Y Y Y (by omega) Y ?_ | refine A1 1 sbT hG Y Y Y Y Y (by omega) Y ?_ | refine A2 2 sbT hG Y Y Y Y Y (by omega) Y ?_ | refine A1 2 sbT hG Y Y Y Y Y (by omega) Y ?_ | refine A2 3 sbT hG Y Y Y Y Y (by omega) Y ?_ | refine A1 3 sbT hG Y Y Y Y Y (by omega) Y ?_ | refine Ak (α := UInt16) 0 hG Y Y Y Y (by omega) Y ?_ | refine Ak (α := UInt16) 1 hG Y Y Y Y (by omega) Y ?_ | refine Ay hG Y Y Y ?_ | refine A8 0 hG Y Y Y Y ?_ | refine A8 1 hG Y Y Y Y ?_)
      | (show AOp _ _ ⟨_, .indexAddr _ _ _, _, _, _, _⟩ _ _ _; first | refine Bw (sz := 4) hG Y Y Y Y Y Y Y (by omega) ?_ | refine A4 hG Y Y Y Y Y Y Y (by omega) ?_ | refine r_idx0 hG Y Y Y Y Y Y Y ?_ | refine Az hG Y Y Y Y Y Y Y (by omega) ?_ | refine Ax hG Y Y Y Y Y Y Y (by omega) ?_ | refine Bb hG Y Y ?_)
      | refine Bc hG Y Y Y ?_
      | refine Bn hG Y Y Y ?_
      | refine r_build hG Y Y Y Y Y ?_
      | (show AOp _ _ ⟨_, .store _ _ _, _, _, _, _⟩ _ _ _; first | refine A0 (α := UInt16) 0 hG Y Y Y hT_cells hT_sc Y Y (by first | omega | (simp only [Array.size_setIfInBounds]; omega)) ?_ | refine A0 (α := UInt16) 1 hG Y Y Y hT_cells hT_sc Y Y (by first | omega | (simp only [Array.size_setIfInBounds]; omega)) ?_ | refine Bg 0 hG Y Y Y Y Y Y Y ?_ | refine Bg 1 hG Y Y Y Y Y Y Y ?_)
      | (show AOp _ _ ⟨_, .call ⟨.value _, _, _⟩, _, _, _, _⟩ _ _ _; first | refine B0 Y Y Y Y Y (by first | (apply hc <;> (first | assumption | omega | exact Ba _ _ | exact Bi _ | exact Bk _ _ | exact Bs _ | rfl | (simp; omega))) | fail) ?_ | fail)
      | refine r_q hG Y Y Y ?_); refine ke _ _ ?_)
    | (refine el_nil ⟨_, Y⟩ ?_; show AL _ _ _ _ _ _ _ _) | fail)
    repeat' (first
    | ((first | (show AL _ _ _ _ _ _ _ _; refine Ae Y ?_) | (show DL _ _ _ _ _ _ _; refine' A6 Y Y (fun K kk => ?_) ?_; try (show Go.Ts.T; rotate_left))); (first
      | refine Aq hG Y Y ?_
      | refine A5 hG Y Y ?_
      | (show AOp _ _ ⟨_, .call ⟨.builtin .len, _, _⟩, _, _, _, _⟩ _ _ _; first | refine Br hG Y Y Y Y ?_ | refine Bx hG Y Y Y Y Y ?_)
      | (show AOp _ _ ⟨_, .lookup _ _ _ _, _, _, _, _⟩ _ _ _; first | refine r_lookF hG Y Y Y Y Y Y Y Y Y ?_ | refine r_lookFo hG Y Y Y Y Y Y Y Y Y ?_ | refine B8 (n := 0) hG Y Y Y Y Y Y Y Y Y Y ?_ | refine B8 (n := 1) hG Y Y Y Y Y Y Y Y Y Y ?_)
      | (show AOp _ _ ⟨_, .mapUpdate _ _ _ _, _, _, _, _⟩ _ _ _; first | refine r_updL 0 hG Y Y Y Y Y Y Y Y ?_ | refine r_updL 1 hG Y Y Y Y Y Y Y Y ?_)
      | (show AOp _ _ ⟨_, .binOp .add _ _ _ _, _, _, _, _⟩ _ _ _; first | refine Ab hG Y Y Y Y Y (by omega) ?_ | refine Ab (m := 1) hG Y Y Y Y Y (by omega) ?_ | refine Aa hG Y Y Y Y Y (by omega) ?_)
      | (show AOp _ _ ⟨_, .binOp _ _ _ _ _, _, _, _, _⟩ _ _ _; first | refine Au hG Y Y Y Y Y (by omega) ?_ | refine At hG Y Y Y Y Y (by omega) ?_ | ((fail_if_success have := kk); refine Am hG Y Y Y Y Y (fun h => ?_) (fun h => ?_)) | refine Bl hG Y Y Y ?_ | refine Bv hG Y Y Y Y ?_)
      | (show AOp _ _ ⟨_, .load _ _, _, _, _, _⟩ _ _ _; first | refine A2 0 sbT hG Y Y Y Y Y (by omega) Y ?_ | refine A1 0 sbT hG Y Y Y Y Y (by omega) Y ?_ | refine A2 1 sbT hG Y Y Y Y Y (by omega) Y ?_ | refine A1 1 sbT hG Y Y Y Y Y (by omega) Y ?_ | refine A2 2 sbT hG Y Y Y Y Y (by omega) Y ?_ | refine A1 2 sbT hG Y Y Y Y Y (by omega) Y ?_ | refine A2 3 sbT hG Y Y Y Y Y (by omega) Y ?_ | refine A1 3 sbT hG Y Y Y Y Y (by omega) Y ?_ | refine Ak (α := UInt16) 0 hG Y Y Y Y (by omega) Y ?_ | refine Ak (α := UInt16) 1 hG Y Y Y Y (by omega) Y ?_ | refine Ay hG Y Y Y ?_ | refine A8 0 hG Y Y Y Y ?_ | refine A8 1 hG Y Y Y Y ?_)
      | (show AOp _ _ ⟨_, .indexAddr _ _ _, _, _, _, _⟩ _ _ _; first | refine Bw (sz := 4) hG Y Y Y Y Y Y Y (by omega) ?_ | refine A4 hG Y Y Y Y Y Y Y (by omega) ?_ | refine r_idx0 hG Y Y Y Y Y Y Y ?_ | refine Az hG Y Y Y Y Y Y Y (by omega) ?_ | refine Ax hG Y Y Y Y Y Y Y (by omega) ?_ | refine Bb hG Y Y ?_)
      | refine Bc hG Y Y Y ?_
      | refine Bn hG Y Y Y ?_
      | refine r_build hG Y Y Y Y Y ?_
      | (show AOp _ _ ⟨_, .store _ _ _, _, _, _, _⟩ _ _ _; fail)
      | refine r_q hG Y Y Y ?_); try exact kk)
    | (show AL _ _ _ _ _ _ _ _; first | refine Bj Y Y Y ?_ | (refine Ar ?_; first | show AW _ _ _ _ _ _ | show ∃ x', _ < _ ∧ _)) | (show AW _ _ (.seq _ _) _ _ _; refine Ah ?_; intro Q1) | (show AW _ _ (.region _ _ false) _ _ _; refine Ad ?_; intro O1) | (show AW _ _ (.cond _ _ _) _ _ _; first | refine Ao Y ?_ | refine Ap Y ?_ | refine Bf Y (fun h => ?_) (fun h => ?_)) | (show AW _ _ (.skip) _ _ _; refine Aj ?_; first | show AW _ _ _ _ _ _ | show ∃ x', _ < _ ∧ _) | (show AW _ _ (.ret) _ _ _; refine Av ?_; try dsimp only [A3, Ac, A7, Ag])
    | (show DL _ _ _ _ _ _ _; refine Bt Y Y (fun K kt kf => Am hG Y Y Y Y Y kt kf) (fun h => ?_) (fun h => ?_))
    | (show DL _ _ _ _ _ _ _; refine Bu Y Y Y ?_) | (show DL _ _ _ _ _ _ _; refine Bd ?_; first | show AW _ _ _ _ _ _ | show ∃ x', _ < _ ∧ _) | (show AW _ _ (.region _ _ true) _ _ _; refine Aw mix (by kernel_rfl) ?_; intro O1) | fail)
    have e : arL v ((s :: l).set j (bump ((s :: l).getD j default) id hid b)) at' p i m = [(p, .cells [bT v, .aref 4 i 0 (s :: l).length none, .map (some m)]), (m, .map (at'.map kvT)), (i, .cells (flat (((s :: l).set j (bump ((s :: l).getD j default) id hid b)).map sbT)))] := by
      have hne : (s :: l).set j (bump ((s :: l).getD j default) id hid b) ≠ [] := by cases j <;> simp
      unfold arL
      rw [slT_ne hne, rowOf_ne hne, List.length_set]
    refine Ae rfl (r_stE 2 sbT (l := s :: l) (v := bump ((s :: l).getD j default) id hid b) (z := j) hG rfl rfl rfl rfl rfl rfl rfl hjl ?_)
    repeat' (first
    | ((first | (show AL _ _ _ _ _ _ _ _; refine Ae Y ?_) | (show DL _ _ _ _ _ _ _; refine' A6 Y Y (fun K kk => ?_) ?_; try (show Go.Ts.T; rotate_left))); (first
      | refine Aq hG Y Y ?_
      | refine A5 hG Y Y ?_
      | (show AOp _ _ ⟨_, .call ⟨.builtin .len, _, _⟩, _, _, _, _⟩ _ _ _; first | refine Br hG Y Y Y Y ?_ | refine Bx hG Y Y Y Y Y ?_)
      | (show AOp _ _ ⟨_, .lookup _ _ _ _, _, _, _, _⟩ _ _ _; first | refine r_lookF hG Y Y Y Y Y Y Y Y Y ?_ | refine r_lookFo hG Y Y Y Y Y Y Y Y Y ?_ | refine B8 (n := 0) hG Y Y Y Y Y Y Y Y Y Y ?_ | refine B8 (n := 1) hG Y Y Y Y Y Y Y Y Y Y ?_)
      | (show AOp _ _ ⟨_, .mapUpdate _ _ _ _, _, _, _, _⟩ _ _ _; first | refine r_updL 0 hG Y Y Y Y Y Y Y Y ?_ | refine r_updL 1 hG Y Y Y Y Y Y Y Y ?_)
      | (show AOp _ _ ⟨_, .binOp .add _ _ _ _, _, _, _, _⟩ _ _ _; first | refine Ab hG Y Y Y Y Y (by omega) ?_ | refine Ab (m := 1) hG Y Y Y Y Y (by omega) ?_ | refine Aa hG Y Y Y Y Y (by omega) ?_)
      | (show AOp _ _ ⟨_, .binOp _ _ _ _ _, _, _, _, _⟩ _ _ _; first | refine Au hG Y Y Y Y Y (by omega) ?_ | refine At hG Y Y Y Y Y (by omega) ?_ | ((fail_if_success have := kk); refine Am hG Y Y Y Y Y (fun h => ?_) (fun h => ?_)) | refine Bl hG Y Y Y ?_ | refine Bv hG Y Y Y Y ?_)
      | (show AOp _ _ ⟨_, .load _ _, _, _, _, _⟩ _ _ _; first | refine A2 0 sbT hG Y Y Y Y Y (by omega) Y ?_ | refine A1 0 sbT hG Y Y Y Y Y (by omega) Y ?_ | refine A2 1 sbT hG Y Y Y Y Y (by omega) Y ?_ | refine A1 1 sbT hG Y Y Y Y Y (by omega) Y ?_ | refine A2 2 sbT hG Y Y Y Y Y (by omega) Y ?_ | refine A1 2 sbT hG Y Y Y Y Y (by omega) Y ?_ | refine A2 3 sbT hG Y Y Y Y Y (by omega) Y ?_ | refine A1 3 sbT hG Y Y Y Y Y (by omega) Y ?_ | refine Ak (α := UInt16) 0 hG Y Y Y Y (by omega) Y ?_ | refine Ak (α := UInt16) 1 hG Y Y Y Y (by omega) Y ?_ | refine Ay hG Y Y Y ?_ | refine A8 0 hG Y Y Y Y ?_ | refine A8 1 hG Y Y Y Y ?_)
      | (show AOp _ _ ⟨_, .indexAddr _ _ _, _, _, _, _⟩ _ _ _; first | refine Bw (sz := 4) hG Y Y Y Y Y Y Y (by omega) ?_ | refine A4 hG Y Y Y Y Y Y Y (by omega) ?_ | refine r_idx0 hG Y Y Y Y Y Y Y ?_ | refine Az hG Y Y Y Y Y Y Y (by omega) ?_ | refine Ax hG Y Y Y Y Y Y Y (by omega) ?_ | refine Bb hG Y Y ?_)
      | refine Bc hG Y Y Y ?_
      | refine Bn hG Y Y Y ?_
      | refine r_build hG Y Y Y Y Y ?_
      | (show AOp _ _ ⟨_, .store _ _ _, _, _, _, _⟩ _ _ _; first | refine A0 (α := UInt16) 0 hG Y Y Y hT_cells hT_sc Y Y (by first | omega | (simp only [Array.size_setIfInBounds]; omega)) ?_ | refine A0 (α := UInt16) 1 hG Y Y Y hT_cells hT_sc Y Y (by first | omega | (simp only [Array.size_setIfInBounds]; omega)) ?_ | refine Bg 0 hG Y Y Y Y Y Y Y ?_ | refine Bg 1 hG Y Y Y Y Y Y Y ?_)
      | refine r_q hG Y Y Y ?_); try exact kk)
    | (show AL _ _ _ _ _ _ _ _; first | refine Bj Y Y Y ?_ | (refine Ar ?_; first | show AW _ _ _ _ _ _ | show ∃ x', _ < _ ∧ _)) | (show AW _ _ (.seq _ _) _ _ _; refine Ah ?_; intro Q1) | (show AW _ _ (.region _ _ false) _ _ _; refine Ad ?_; intro O1) | (show AW _ _ (.cond _ _ _) _ _ _; first | refine Ao Y ?_ | refine Ap Y ?_ | refine Bf Y (fun h => ?_) (fun h => ?_)) | (show AW _ _ (.skip) _ _ _; refine Aj ?_; first | show AW _ _ _ _ _ _ | show ∃ x', _ < _ ∧ _) | (show AW _ _ (.ret) _ _ _; refine Av ?_; try dsimp only [A3, Ac, A7, Ag])
    | (show DL _ _ _ _ _ _ _; refine Bt Y Y (fun K kt kf => Am hG Y Y Y Y Y kt kf) (fun h => ?_) (fun h => ?_))
    | (show DL _ _ _ _ _ _ _; refine Bu Y Y Y ?_) | (show DL _ _ _ _ _ _ _; refine Bd ?_; first | show AW _ _ _ _ _ _ | show ∃ x', _ < _ ∧ _) | (show AW _ _ (.region _ _ true) _ _ _; refine Aw mix (by kernel_rfl) ?_; intro O1) | fail)
    exact ret_onL (Bq rfl Bo) (.refl _) (.refl _) (.refl _) rfl ⟨rfl, e.symm⟩
theorem arena_Put_new (v : UInt8) (l : List SB) (at' : List (Nat × Int)) {id : Nat} {b : List UInt8} (hid : id < 18446744073709551616) (hb : b.length ≤ 4294967296) (h : putsB v b = true) (hk : khas at' id = false) (hl : l.length ≤ 999999) (p i m : Nat) :
    OnL Try.prog 32 [.ptr p 0, .int .u64 (id : Int), sT b] (arL v l at' p i m) (fun u L => ∃ i', u = .int .i64 0 ∧ L = arL v ((flS l).set (fidx l) (bump ((flS l).getD (fidx l) default) id hid b)) (kset at' id (fidx l : Int)) p i' m) := by
  unfold putsB at h
  rw [Bool.and_eq_true, decide_eq_true_eq, decide_eq_true_eq] at h
  obtain ⟨h0, h1⟩ := h
  have h2 : ((b.getD 0 default).toNat : Int) = ((v.toNat : Nat) : Int) := by rw [h1]
  have hc := clone_p hb
  have hf := arena_free v l at' (by omega) p i m
  obtain ⟨hjl, hfl⟩ := fidx_lt l
  generalize flS l = fl at *
  generalize fidx l = j at *
  intro off
  refine Bp (N := 73) (rs := [.tmp 6]) hG Try.func32 rfl rfl rfl rfl rfl ?_
  repeat' (first
    | ((first | (show AL _ _ _ _ _ _ _ _; refine Ae Y ?_) | (show DL _ _ _ _ _ _ _; refine' A6 Y Y (fun K kk => ?_) ?_; try (show Go.Ts.T; rotate_left))); (first
      | refine Aq hG Y Y ?_
      | refine A5 hG Y Y ?_
      | (show AOp _ _ ⟨_, .call ⟨.builtin .len, _, _⟩, _, _, _, _⟩ _ _ _; first | refine Br hG Y Y Y Y ?_ | refine Bx hG Y Y Y Y Y ?_)
      | (show AOp _ _ ⟨_, .lookup _ _ _ _, _, _, _, _⟩ _ _ _; fail)
      | (show AOp _ _ ⟨_, .mapUpdate _ _ _ _, _, _, _, _⟩ _ _ _; first | refine r_updL 0 hG Y Y Y Y Y Y Y Y ?_ | refine r_updL 1 hG Y Y Y Y Y Y Y Y ?_)
      | (show AOp _ _ ⟨_, .binOp .add _ _ _ _, _, _, _, _⟩ _ _ _; first | refine Ab hG Y Y Y Y Y (by omega) ?_ | refine Ab (m := 1) hG Y Y Y Y Y (by omega) ?_ | refine Aa hG Y Y Y Y Y (by omega) ?_)
      | (show AOp _ _ ⟨_, .binOp _ _ _ _ _, _, _, _, _⟩ _ _ _; first | refine Au hG Y Y Y Y Y (by omega) ?_ | refine At hG Y Y Y Y Y (by omega) ?_ | ((fail_if_success have := kk); refine Am hG Y Y Y Y Y (fun h => ?_) (fun h => ?_)) | refine Bl hG Y Y Y ?_ | refine Bv hG Y Y Y Y ?_)
      | (show AOp _ _ ⟨_, .load _ _, _, _, _, _⟩ _ _ _; first | refine A2 0 sbT hG Y Y Y Y Y (by omega) Y ?_ | refine A1 0 sbT hG Y Y Y Y Y (by omega) Y ?_ | refine A2 1 sbT hG Y Y Y Y Y (by omega) Y ?_ | refine A1 1 sbT hG Y Y Y Y Y (by omega) Y ?_ | refine A2 2 sbT hG Y Y Y Y Y (by omega) Y ?_ | refine A1 2 sbT hG Y Y Y Y Y (by omega) Y ?_ | refine A2 3 sbT hG Y Y Y Y Y (by omega) Y ?_ | refine A1 3 sbT hG Y Y Y Y Y (by omega) Y ?_ | refine Ak (α := UInt16) 0 hG Y Y Y Y (by omega) Y ?_ | refine Ak (α := UInt16) 1 hG Y Y Y Y (by omega) Y ?_ | refine Ay hG Y Y Y ?_ | refine A8 0 hG Y Y Y Y ?_ | refine A8 1 hG Y Y Y Y ?_)
      | (show AOp _ _ ⟨_, .indexAddr _ _ _, _, _, _, _⟩ _ _ _; first | refine Bw (sz := 4) hG Y Y Y Y Y Y Y (by omega) ?_ | refine A4 hG Y Y Y Y Y Y Y (by omega) ?_ | refine r_idx0 hG Y Y Y Y Y Y Y ?_ | refine Az hG Y Y Y Y Y Y Y (by omega) ?_ | refine Ax hG Y Y Y Y Y Y Y (by omega) ?_ | refine Bb hG Y Y ?_)
      | refine Bc hG Y Y Y ?_
      | refine Bn hG Y Y Y ?_
      | refine r_build hG Y Y Y Y Y ?_
      | (show AOp _ _ ⟨_, .store _ _ _, _, _, _, _⟩ _ _ _; first | refine A0 (α := UInt16) 0 hG Y Y Y hT_cells hT_sc Y Y (by first | omega | (simp only [Array.size_setIfInBounds]; omega)) ?_ | refine A0 (α := UInt16) 1 hG Y Y Y hT_cells hT_sc Y Y (by first | omega | (simp only [Array.size_setIfInBounds]; omega)) ?_ | refine Bg 0 hG Y Y Y Y Y Y Y ?_ | refine Bg 1 hG Y Y Y Y Y Y Y ?_)
      | (show AOp _ _ ⟨_, .call ⟨.value _, _, _⟩, _, _, _, _⟩ _ _ _; first | refine B0 Y Y Y Y Y (by first | (apply hc <;> (first | assumption | omega | exact Ba _ _ | exact Bi _ | exact Bk _ _ | exact Bs _ | rfl | (simp; omega))) | fail) ?_ | fail)
      | refine r_q hG Y Y Y ?_); try exact kk)
    | (show AL _ _ _ _ _ _ _ _; first | refine Bj Y Y Y ?_ | (refine Ar ?_; first | show AW _ _ _ _ _ _ | show ∃ x', _ < _ ∧ _)) | (show AW _ _ (.seq _ _) _ _ _; refine Ah ?_; intro Q1) | (show AW _ _ (.region _ _ false) _ _ _; refine Ad ?_; intro O1) | (show AW _ _ (.cond _ _ _) _ _ _; first | refine Ao Y ?_ | refine Ap Y ?_ | refine Bf Y (fun h => ?_) (fun h => ?_)) | (show AW _ _ (.skip) _ _ _; refine Aj ?_; first | show AW _ _ _ _ _ _ | show ∃ x', _ < _ ∧ _) | (show AW _ _ (.ret) _ _ _; refine Av ?_; try dsimp only [A3, Ac, A7, Ag])
    | (show DL _ _ _ _ _ _ _; refine Bt Y Y (fun K kt kf => Am hG Y Y Y Y Y kt kf) (fun h => ?_) (fun h => ?_))
    | (show DL _ _ _ _ _ _ _; refine Bu Y Y Y ?_) | (show DL _ _ _ _ _ _ _; refine Bd ?_; first | show AW _ _ _ _ _ _ | show ∃ x', _ < _ ∧ _) | (show AW _ _ (.region _ _ true) _ _ _; refine Aw mix (by kernel_rfl) ?_; intro O1) | fail)
  · exact absurd h2 h
  refine Ae rfl (r_lookLo (n := 1) rfl hk hG rfl rfl rfl rfl rfl rfl rfl rfl rfl rfl ?_)
  repeat' (first
    | ((first | (show AL _ _ _ _ _ _ _ _; refine Ae Y ?_) | (show DL _ _ _ _ _ _ _; refine' A6 Y Y (fun K kk => ?_) ?_; try (show Go.Ts.T; rotate_left))); (first
      | refine Aq hG Y Y ?_
      | refine A5 hG Y Y ?_
      | (show AOp _ _ ⟨_, .call ⟨.builtin .len, _, _⟩, _, _, _, _⟩ _ _ _; first | refine Br hG Y Y Y Y ?_ | refine Bx hG Y Y Y Y Y ?_)
      | (show AOp _ _ ⟨_, .lookup _ _ _ _, _, _, _, _⟩ _ _ _; first | refine r_lookF hG Y Y Y Y Y Y Y Y Y ?_ | refine r_lookFo hG Y Y Y Y Y Y Y Y Y ?_ | refine B8 (n := 0) hG Y Y Y Y Y Y Y Y Y Y ?_ | refine B8 (n := 1) hG Y Y Y Y Y Y Y Y Y Y ?_)
      | (show AOp _ _ ⟨_, .mapUpdate _ _ _ _, _, _, _, _⟩ _ _ _; first | refine r_updL 0 hG Y Y Y Y Y Y Y Y ?_ | refine r_updL 1 hG Y Y Y Y Y Y Y Y ?_)
      | (show AOp _ _ ⟨_, .binOp .add _ _ _ _, _, _, _, _⟩ _ _ _; first | refine Ab hG Y Y Y Y Y (by omega) ?_ | refine Ab (m := 1) hG Y Y Y Y Y (by omega) ?_ | refine Aa hG Y Y Y Y Y (by omega) ?_)
      | (show AOp _ _ ⟨_, .binOp _ _ _ _ _, _, _, _, _⟩ _ _ _; first | refine Au hG Y Y Y Y Y (by omega) ?_ | refine At hG Y Y Y Y Y (by omega) ?_ | ((fail_if_success have := kk); refine Am hG Y Y Y Y Y (fun h => ?_) (fun h => ?_)) | refine Bl hG Y Y Y ?_ | refine Bv hG Y Y Y Y ?_)
      | (show AOp _ _ ⟨_, .load _ _, _, _, _, _⟩ _ _ _; first | refine A2 0 sbT hG Y Y Y Y Y (by omega) Y ?_ | refine A1 0 sbT hG Y Y Y Y Y (by omega) Y ?_ | refine A2 1 sbT hG Y Y Y Y Y (by omega) Y ?_ | refine A1 1 sbT hG Y Y Y Y Y (by omega) Y ?_ | refine A2 2 sbT hG Y Y Y Y Y (by omega) Y ?_ | refine A1 2 sbT hG Y Y Y Y Y (by omega) Y ?_ | refine A2 3 sbT hG Y Y Y Y Y (by omega) Y ?_ | refine A1 3 sbT hG Y Y Y Y Y (by omega) Y ?_ | refine Ak (α := UInt16) 0 hG Y Y Y Y (by omega) Y ?_ | refine Ak (α := UInt16) 1 hG Y Y Y Y (by omega) Y ?_ | refine Ay hG Y Y Y ?_ | refine A8 0 hG Y Y Y Y ?_ | refine A8 1 hG Y Y Y Y ?_)
      | (show AOp _ _ ⟨_, .indexAddr _ _ _, _, _, _, _⟩ _ _ _; first | refine Bw (sz := 4) hG Y Y Y Y Y Y Y (by omega) ?_ | refine A4 hG Y Y Y Y Y Y Y (by omega) ?_ | refine r_idx0 hG Y Y Y Y Y Y Y ?_ | refine Az hG Y Y Y Y Y Y Y (by omega) ?_ | refine Ax hG Y Y Y Y Y Y Y (by omega) ?_ | refine Bb hG Y Y ?_)
      | refine Bc hG Y Y Y ?_
      | refine Bn hG Y Y Y ?_
      | refine r_build hG Y Y Y Y Y ?_
      | (show AOp _ _ ⟨_, .store _ _ _, _, _, _, _⟩ _ _ _; first | refine A0 (α := UInt16) 0 hG Y Y Y hT_cells hT_sc Y Y (by first | omega | (simp only [Array.size_setIfInBounds]; omega)) ?_ | refine A0 (α := UInt16) 1 hG Y Y Y hT_cells hT_sc Y Y (by first | omega | (simp only [Array.size_setIfInBounds]; omega)) ?_ | refine Bg 0 hG Y Y Y Y Y Y Y ?_ | refine Bg 1 hG Y Y Y Y Y Y Y ?_)
      | (show AOp _ _ ⟨_, .call ⟨.value _, _, _⟩, _, _, _, _⟩ _ _ _; first | refine B0 Y Y Y Y Y (by first | (apply hc <;> (first | assumption | omega | exact Ba _ _ | exact Bi _ | exact Bk _ _ | exact Bs _ | rfl | (simp; omega))) | fail) ?_ | fail)
      | refine r_q hG Y Y Y ?_); try exact kk)
    | (show AL _ _ _ _ _ _ _ _; first | refine Bj Y Y Y ?_ | (refine Ar ?_; first | show AW _ _ _ _ _ _ | show ∃ x', _ < _ ∧ _)) | (show AW _ _ (.seq _ _) _ _ _; refine Ah ?_; intro Q1) | (show AW _ _ (.region _ _ false) _ _ _; refine Ad ?_; intro O1) | (show AW _ _ (.cond _ _ _) _ _ _; first | refine Ao Y ?_ | refine Ap Y ?_ | refine Bf Y (fun h => ?_) (fun h => ?_)) | (show AW _ _ (.skip) _ _ _; refine Aj ?_; first | show AW _ _ _ _ _ _ | show ∃ x', _ < _ ∧ _) | (show AW _ _ (.ret) _ _ _; refine Av ?_; try dsimp only [A3, Ac, A7, Ag])
    | (show DL _ _ _ _ _ _ _; refine Bt Y Y (fun K kt kf => Am hG Y Y Y Y Y kt kf) (fun h => ?_) (fun h => ?_))
    | (show DL _ _ _ _ _ _ _; refine Bu Y Y Y ?_) | (show DL _ _ _ _ _ _ _; refine Bd ?_; first | show AW _ _ _ _ _ _ | show ∃ x', _ < _ ∧ _) | (show AW _ _ (.region _ _ true) _ _ _; refine Aw mix (by kernel_rfl) ?_; intro O1) | fail)
  refine Ae rfl (r_onL rfl rfl rfl rfl (Lf := []) (by rw [List.append_nil]) hf ?_)
  rintro u L' ⟨i', rfl, rfl⟩
  cases fl with
  | nil => simp at hjl
  | cons s l' =>
  repeat' (first
    | ((first | (show AL _ _ _ _ _ _ _ _; refine Ae Y ?_) | (show DL _ _ _ _ _ _ _; refine' A6 Y Y (fun K kk => ?_) ?_; try (show Go.Ts.T; rotate_left))); (first
      | refine Aq hG Y Y ?_
      | refine A5 hG Y Y ?_
      | (show AOp _ _ ⟨_, .call ⟨.builtin .len, _, _⟩, _, _, _, _⟩ _ _ _; first | refine Br hG Y Y Y Y ?_ | refine Bx hG Y Y Y Y Y ?_)
      | (show AOp _ _ ⟨_, .lookup _ _ _ _, _, _, _, _⟩ _ _ _; first | refine r_lookF hG Y Y Y Y Y Y Y Y Y ?_ | refine r_lookFo hG Y Y Y Y Y Y Y Y Y ?_ | refine B8 (n := 0) hG Y Y Y Y Y Y Y Y Y Y ?_ | refine B8 (n := 1) hG Y Y Y Y Y Y Y Y Y Y ?_)
      | (show AOp _ _ ⟨_, .mapUpdate _ _ _ _, _, _, _, _⟩ _ _ _; fail)
      | (show AOp _ _ ⟨_, .binOp .add _ _ _ _, _, _, _, _⟩ _ _ _; first | refine Ab hG Y Y Y Y Y (by omega) ?_ | refine Ab (m := 1) hG Y Y Y Y Y (by omega) ?_ | refine Aa hG Y Y Y Y Y (by omega) ?_)
      | (show AOp _ _ ⟨_, .binOp _ _ _ _ _, _, _, _, _⟩ _ _ _; first | refine Au hG Y Y Y Y Y (by omega) ?_ | refine At hG Y Y Y Y Y (by omega) ?_ | ((fail_if_success have := kk); refine Am hG Y Y Y Y Y (fun h => ?_) (fun h => ?_)) | refine Bl hG Y Y Y ?_ | refine Bv hG Y Y Y Y ?_)
      | (show AOp _ _ ⟨_, .load _ _, _, _, _, _⟩ _ _ _; first | refine A2 0 sbT hG Y Y Y Y Y (by omega) Y ?_ | refine A1 0 sbT hG Y Y Y Y Y (by omega) Y ?_ | refine A2 1 sbT hG Y Y Y Y Y (by omega) Y ?_ | refine A1 1 sbT hG Y Y Y Y Y (by omega) Y ?_ | refine A2 2 sbT hG Y Y Y Y Y (by omega) Y ?_ | refine A1 2 sbT hG Y Y Y Y Y (by omega) Y ?_ | refine A2 3 sbT hG Y Y Y Y Y (by omega) Y ?_ | refine A1 3 sbT hG Y Y Y Y Y (by omega) Y ?_ | refine Ak (α := UInt16) 0 hG Y Y Y Y (by omega) Y ?_ | refine Ak (α := UInt16) 1 hG Y Y Y Y (by omega) Y ?_ | refine Ay hG Y Y Y ?_ | refine A8 0 hG Y Y Y Y ?_ | refine A8 1 hG Y Y Y Y ?_)
      | (show AOp _ _ ⟨_, .indexAddr _ _ _, _, _, _, _⟩ _ _ _; first | refine Bw (sz := 4) hG Y Y Y Y Y Y Y (by omega) ?_ | refine A4 hG Y Y Y Y Y Y Y (by omega) ?_ | refine r_idx0 hG Y Y Y Y Y Y Y ?_ | refine Az hG Y Y Y Y Y Y Y (by omega) ?_ | refine Ax hG Y Y Y Y Y Y Y (by omega) ?_ | refine Bb hG Y Y ?_)
      | refine Bc hG Y Y Y ?_
      | refine Bn hG Y Y Y ?_
      | refine r_build hG Y Y Y Y Y ?_
      | (show AOp _ _ ⟨_, .store _ _ _, _, _, _, _⟩ _ _ _; first | refine A0 (α := UInt16) 0 hG Y Y Y hT_cells hT_sc Y Y (by first | omega | (simp only [Array.size_setIfInBounds]; omega)) ?_ | refine A0 (α := UInt16) 1 hG Y Y Y hT_cells hT_sc Y Y (by first | omega | (simp only [Array.size_setIfInBounds]; omega)) ?_ | refine Bg 0 hG Y Y Y Y Y Y Y ?_ | refine Bg 1 hG Y Y Y Y Y Y Y ?_)
      | (show AOp _ _ ⟨_, .call ⟨.value _, _, _⟩, _, _, _, _⟩ _ _ _; first | refine B0 Y Y Y Y Y (by first | (apply hc <;> (first | assumption | omega | exact Ba _ _ | exact Bi _ | exact Bk _ _ | exact Bs _ | rfl | (simp; omega))) | fail) ?_ | fail)
      | refine r_q hG Y Y Y ?_); try exact kk)
    | (show AL _ _ _ _ _ _ _ _; first | refine Bj Y Y Y ?_ | (refine Ar ?_; first | show AW _ _ _ _ _ _ | show ∃ x', _ < _ ∧ _)) | (show AW _ _ (.seq _ _) _ _ _; refine Ah ?_; intro Q1) | (show AW _ _ (.region _ _ false) _ _ _; refine Ad ?_; intro O1) | (show AW _ _ (.cond _ _ _) _ _ _; first | refine Ao Y ?_ | refine Ap Y ?_ | refine Bf Y (fun h => ?_) (fun h => ?_)) | (show AW _ _ (.skip) _ _ _; refine Aj ?_; first | show AW _ _ _ _ _ _ | show ∃ x', _ < _ ∧ _) | (show AW _ _ (.ret) _ _ _; refine Av ?_; try dsimp only [A3, Ac, A7, Ag])
    | (show DL _ _ _ _ _ _ _; refine Bt Y Y (fun K kt kf => Am hG Y Y Y Y Y kt kf) (fun h => ?_) (fun h => ?_))
    | (show DL _ _ _ _ _ _ _; refine Bu Y Y Y ?_) | (show DL _ _ _ _ _ _ _; refine Bd ?_; first | show AW _ _ _ _ _ _ | show ∃ x', _ < _ ∧ _) | (show AW _ _ (.region _ _ true) _ _ _; refine Aw mix (by kernel_rfl) ?_; intro O1) | fail)
  refine Ae rfl ?_
  refine r_updL 1 hG rfl rfl rfl rfl rfl rfl rfl rfl ?_
  repeat' (first
    | ((first | (show AL _ _ _ _ _ _ _ _; refine Ae Y ?_) | (show DL _ _ _ _ _ _ _; refine' A6 Y Y (fun K kk => ?_) ?_; try (show Go.Ts.T; rotate_left))); (first
      | refine Aq hG Y Y ?_
      | refine A5 hG Y Y ?_
      | (show AOp _ _ ⟨_, .call ⟨.builtin .len, _, _⟩, _, _, _, _⟩ _ _ _; first | refine Br hG Y Y Y Y ?_ | refine Bx hG Y Y Y Y Y ?_)
      | (show AOp _ _ ⟨_, .lookup _ _ _ _, _, _, _, _⟩ _ _ _; first | refine r_lookF hG Y Y Y Y Y Y Y Y Y ?_ | refine r_lookFo hG Y Y Y Y Y Y Y Y Y ?_ | refine B8 (n := 0) hG Y Y Y Y Y Y Y Y Y Y ?_ | refine B8 (n := 1) hG Y Y Y Y Y Y Y Y Y Y ?_)
      | (show AOp _ _ ⟨_, .mapUpdate _ _ _ _, _, _, _, _⟩ _ _ _; first | refine r_updL 0 hG Y Y Y Y Y Y Y Y ?_ | refine r_updL 1 hG Y Y Y Y Y Y Y Y ?_)
      | (show AOp _ _ ⟨_, .binOp .add _ _ _ _, _, _, _, _⟩ _ _ _; first | refine Ab hG Y Y Y Y Y (by omega) ?_ | refine Ab (m := 1) hG Y Y Y Y Y (by omega) ?_ | refine Aa hG Y Y Y Y Y (by omega) ?_)
      | (show AOp _ _ ⟨_, .binOp _ _ _ _ _, _, _, _, _⟩ _ _ _; first | refine Au hG Y Y Y Y Y (by omega) ?_ | refine At hG Y Y Y Y Y (by omega) ?_ | ((fail_if_success have := kk); refine Am hG Y Y Y Y Y (fun h => ?_) (fun h => ?_)) | refine Bl hG Y Y Y ?_ | refine Bv hG Y Y Y Y ?_)
      | (show AOp _ _ ⟨_, .load _ _, _, _, _, _⟩ _ _ _; first | refine A2 0 sbT hG Y Y Y Y Y (by omega) Y ?_ | refine A1 0 sbT hG Y Y Y Y Y (by omega) Y ?_ | refine A2 1 sbT hG Y Y Y Y Y (by omega) Y ?_ | refine A1 1 sbT hG Y Y Y Y Y (by omega) Y ?_ | refine A2 2 sbT hG Y Y Y Y Y (by omega) Y ?_ | refine A1 2 sbT hG Y Y Y Y Y (by omega) Y ?_ | refine A2 3 sbT hG Y Y Y Y Y (by omega) Y ?_ | refine A1 3 sbT hG Y Y Y Y Y (by omega) Y ?_ | refine Ak (α := UInt16) 0 hG Y Y Y Y (by omega) Y ?_ | refine Ak (α := UInt16) 1 hG Y Y Y Y (by omega) Y ?_ | refine Ay hG Y Y Y ?_ | refine A8 0 hG Y Y Y Y ?_ | refine A8 1 hG Y Y Y Y ?_)
      | (show AOp _ _ ⟨_, .indexAddr _ _ _, _, _, _, _⟩ _ _ _; first | refine Bw (sz := 4) hG Y Y Y Y Y Y Y (by omega) ?_ | refine A4 hG Y Y Y Y Y Y Y (by omega) ?_ | refine r_idx0 hG Y Y Y Y Y Y Y ?_ | refine Az hG Y Y Y Y Y Y Y (by omega) ?_ | refine Ax hG Y Y Y Y Y Y Y (by omega) ?_ | refine Bb hG Y Y ?_)
      | refine Bc hG Y Y Y ?_
      | refine Bn hG Y Y Y ?_
      | refine r_build hG Y Y Y Y Y ?_
      | (show AOp _ _ ⟨_, .store _ _ _, _, _, _, _⟩ _ _ _; first | refine A0 (α := UInt16) 0 hG Y Y Y hT_cells hT_sc Y Y (by first | omega | (simp only [Array.size_setIfInBounds]; omega)) ?_ | refine A0 (α := UInt16) 1 hG Y Y Y hT_cells hT_sc Y Y (by first | omega | (simp only [Array.size_setIfInBounds]; omega)) ?_ | refine Bg 0 hG Y Y Y Y Y Y Y ?_ | refine Bg 1 hG Y Y Y Y Y Y Y ?_)
      | (show AOp _ _ ⟨_, .call ⟨.value _, _, _⟩, _, _, _, _⟩ _ _ _; first | refine B0 Y Y Y Y Y (by first | (apply hc <;> (first | assumption | omega | exact Ba _ _ | exact Bi _ | exact Bk _ _ | exact Bs _ | rfl | (simp; omega))) | fail) ?_ | fail)
      | refine r_q hG Y Y Y ?_); try exact kk)
    | (show AL _ _ _ _ _ _ _ _; first | refine Bj Y Y Y ?_ | (refine Ar ?_; first | show AW _ _ _ _ _ _ | show ∃ x', _ < _ ∧ _)) | (show AW _ _ (.seq _ _) _ _ _; refine Ah ?_; intro Q1) | (show AW _ _ (.region _ _ false) _ _ _; (fail_if_success show AW _ _ (.region 9 _ _) _ _ _); refine Ad ?_; intro O1) | (show AW _ _ (.cond _ _ _) _ _ _; first | refine Ao Y ?_ | refine Ap Y ?_ | refine Bf Y (fun h => ?_) (fun h => ?_)) | (show AW _ _ (.skip) _ _ _; refine Aj ?_; first | show AW _ _ _ _ _ _ | show ∃ x', _ < _ ∧ _) | (show AW _ _ (.ret) _ _ _; refine Av ?_; try dsimp only [A3, Ac, A7, Ag])
    | (show DL _ _ _ _ _ _ _; refine Bt Y Y (fun K kt kf => Am hG Y Y Y Y Y kt kf) (fun h => ?_) (fun h => ?_))
    | (show DL _ _ _ _ _ _ _; refine Bu Y Y Y ?_) | (show DL _ _ _ _ _ _ _; refine Bd ?_; first | show AW _ _ _ _ _ _ | show ∃ x', _ < _ ∧ _) | (show AW _ _ (.region _ _ true) _ _ _; (fail_if_success show AW _ _ (.region 9 _ _) _ _ _); refine Aw mix (by kernel_rfl) ?_; intro O1) | fail)
  refine aw_drawE' (m := 18) [] (fun σ => ∃ m', σ = ⟨(p, .cells [bT v, .aref 4 i' 0 (s :: l').length none, .map (some m)]) :: (m', .map ((kset at' id (j : Int)).map kvT)) :: [(i', .cells (flat ((s :: l').map sbT)))], [], off, none⟩) mix rfl (by repeat (first | exact Sp.zero _ | apply Sp.succ)) ?_; intro O1 F1 Z1 Q2
  repeat' (first
    | (refine' dq_cons Y Y Y (fun σ hσ K kk => ?_) ?_; (try (show Go.Ts.T; rotate_left)); (obtain ⟨R, rfl⟩ := hσ); (first
      | refine Aq hG Y Y ?_
      | refine A5 hG Y Y ?_
      | (show AOp _ _ ⟨_, .call ⟨.builtin .len, _, _⟩, _, _, _, _⟩ _ _ _; first | refine Br hG Y Y Y Y ?_ | refine Bx hG Y Y Y Y Y ?_)
      | (show AOp _ _ ⟨_, .lookup _ _ _ _, _, _, _, _⟩ _ _ _; first | refine r_lookF hG Y Y Y Y Y Y Y Y Y ?_ | refine r_lookFo hG Y Y Y Y Y Y Y Y Y ?_ | refine B8 (n := 0) hG Y Y Y Y Y Y Y Y Y Y ?_ | refine B8 (n := 1) hG Y Y Y Y Y Y Y Y Y Y ?_)
      | (show AOp _ _ ⟨_, .mapUpdate _ _ _ _, _, _, _, _⟩ _ _ _; first | refine r_updL 0 hG Y Y Y Y Y Y Y Y ?_ | refine r_updL 1 hG Y Y Y Y Y Y Y Y ?_)
      | (show AOp _ _ ⟨_, .binOp .add _ _ _ _, _, _, _, _⟩ _ _ _; first | refine Ab hG Y Y Y Y Y (by omega) ?_ | refine Ab (m := 1) hG Y Y Y Y Y (by omega) ?_ | refine Aa hG Y Y Y Y Y (by omega) ?_)
      | (show AOp _ _ ⟨_, .binOp _ _ _ _ _, _, _, _, _⟩ _ _ _; first | refine Au hG Y Y Y Y Y (by omega) ?_ | refine At hG Y Y Y Y Y (by omega) ?_ | refine Bl hG Y Y Y ?_ | refine Bv hG Y Y Y Y ?_)
      | (show AOp _ _ ⟨_, .load _ _, _, _, _, _⟩ _ _ _; first | refine A2 0 sbT hG Y Y Y Y Y (by omega) Y ?_ | refine A1 0 sbT hG Y Y Y Y Y (by omega) Y ?_ | refine A2 1 sbT hG Y Y Y Y Y (by omega) Y ?_ | refine A1 1 sbT hG Y Y Y Y Y (by omega) Y ?_ | refine A2 2 sbT hG Y Y Y Y Y (by omega) Y ?_ | refine A1 2 sbT hG Y Y Y Y Y (by omega) Y ?_ | refine A2 3 sbT hG Y Y Y Y Y (by omega) Y ?_ | refine A1 3 sbT hG Y Y Y Y Y (by omega) Y ?_ | refine Ak (α := UInt16) 0 hG Y Y Y Y (by omega) Y ?_ | refine Ak (α := UInt16) 1 hG Y Y Y Y (by omega) Y ?_ | refine Ay hG Y Y Y ?_ | refine A8 0 hG Y Y Y Y ?_ | refine A8 1 hG Y Y Y Y ?_)
      | (show AOp _ _ ⟨_, .indexAddr _ _ _, _, _, _, _⟩ _ _ _; first | refine Bw (sz := 4) hG Y Y Y Y Y Y Y (by omega) ?_ | refine A4 hG Y Y Y Y Y Y Y (by omega) ?_ | refine r_idx0 hG Y Y Y Y Y Y Y ?_ | refine Az hG Y Y Y Y Y Y Y (by omega) ?_ | refine Ax hG Y Y Y Y Y Y Y (by omega) ?_ | refine Bb hG Y Y ?_)
      | refine Bc hG Y Y Y ?_
      | refine Bn hG Y Y Y ?_
      | refine r_build hG Y Y Y Y Y ?_
      | (show AOp _ _ ⟨_, .store _ _ _, _, _, _, _⟩ _ _ _; first | refine A0 (α := UInt16) 0 hG Y Y Y hT_cells hT_sc Y Y (by first | omega | (simp only [Array.size_setIfInBounds]; omega)) ?_ | refine A0 (α := UInt16) 1 hG Y Y Y hT_cells hT_sc Y Y (by first | omega | (simp only [Array.size_setIfInBounds]; omega)) ?_ | refine Bg 0 hG Y Y Y Y Y Y Y ?_ | refine Bg 1 hG Y Y Y Y Y Y Y ?_)
      | (show AOp _ _ ⟨_, .call ⟨.value _, _, _⟩, _, _, _, _⟩ _ _ _; first | refine B0 Y Y Y Y Y (by first | (apply hc <;> (first | assumption | omega | exact Ba _ _ | exact Bi _ | exact Bk _ _ | exact Bs _ | rfl | (simp; omega))) | fail) ?_ | fail)
      | refine r_q hG Y Y Y ?_); exact kk)
    | refine dq_d Y Y Y (fun σ hσ K kt kf => by obtain ⟨R, rfl⟩ := hσ; exact Am hG Y Y Y Y Y kt kf) (fun h => ?_) (fun h => ?_)
    | refine dq_d Y Y Y (fun σ hσ K kt kf => by obtain ⟨R, rfl⟩ := hσ; exact r_str hG Y Y Y Y kt kf) (fun h => ?_) (fun h => ?_)
    | refine dq_s Y Y Y Y ?_ | refine dq_e Y ?_ | (refine dq_nil ?_; show EL _ _ _ _ _ _ _ _ _) | refine el_s ⟨_, Y⟩ Y Y Y Y ?_
    | ((first | refine el_cons ⟨_, Y⟩ Y Y Y (fun K ke => ?_) | refine Ch ⟨_, Y⟩ Y Y Y (fun K ke => ?_)); (first
      | refine Aq hG Y Y ?_
      | refine A5 hG Y Y ?_
      | (show AOp _ _ ⟨_, .call ⟨.builtin .len, _, _⟩, _, _, _, _⟩ _ _ _; first | refine Br hG Y Y Y Y ?_ | refine Bx hG Y Y Y Y Y ?_)
      | (show AOp _ _ ⟨_, .lookup _ _ _ _, _, _, _, _⟩ _ _ _; first | refine r_lookF hG Y Y Y Y Y Y Y Y Y ?_ | refine r_lookFo hG Y Y Y Y Y Y Y Y Y ?_ | refine B8 (n := 0) hG Y Y Y Y Y Y Y Y Y Y ?_ | refine B8 (n := 1) hG Y Y Y Y Y Y Y Y Y Y ?_)
      | (show AOp _ _ ⟨_, .mapUpdate _ _ _ _, _, _, _, _⟩ _ _ _; first | refine r_updL 0 hG Y Y Y Y Y Y Y Y ?_ | refine r_updL 1 hG Y Y Y Y Y Y Y Y ?_)
      | (show AOp _ _ ⟨_, .binOp .add _ _ _ _, _, _, _, _⟩ _ _ _; first | refine Ab hG Y Y Y Y Y (by omega) ?_ | refine Ab (m := 1) hG Y Y Y Y Y (by omega) ?_ | refine Aa hG Y Y Y Y Y (by omega) ?_)
      | (show AOp _ _ ⟨_, .binOp _ _ _ _ _, _, _, _, _⟩ _ _ _; first | refine Au hG Y Y Y Y Y (by omega) ?_ | refine At hG Y Y Y Y Y (by omega) ?_ | refine Bl hG Y Y Y ?_ | refine Bv hG Y Y Y Y ?_)
      | (show AOp _ _ ⟨_, .load _ _, _, _, _, _⟩ _ _ _; first | refine A2 0 sbT hG Y Y Y Y Y (by omega) Y ?_ | refine A1 0 sbT hG Y Y Y Y Y (by omega) Y ?_ | refine A2 1 sbT hG Y Y Y Y Y (by omega) Y ?_ | refine A1 1 sbT hG Y Y Y Y Y (by omega) Y ?_ | refine A2 2 sbT hG Y Y Y Y Y (by omega) Y ?_ | refine A1 2 sbT hG Y Y Y Y Y (by omega) Y ?_ | refine A2 3 sbT hG Y Y Y Y Y (by omega) Y ?_ | refine A1 3 sbT hG Y Y Y Y Y (by omega) Y ?_ | refine Ak (α := UInt16) 0 hG Y Y Y Y (by omega) Y ?_ | refine Ak (α := UInt16) 1 hG Y Y Y Y (by omega) Y ?_ | refine Ay hG Y Y Y ?_ | refine A8 0 hG Y Y Y Y ?_ | refine A8 1 hG Y Y Y Y ?_)
      | (show AOp _ _ ⟨_, .indexAddr _ _ _, _, _, _, _⟩ _ _ _; first | refine Bw (sz := 4) hG Y Y Y Y Y Y Y (by omega) ?_ | refine A4 hG Y Y Y Y Y Y Y (by omega) ?_ | refine r_idx0 hG Y Y Y Y Y Y Y ?_ | refine Az hG Y Y Y Y Y Y Y (by omega) ?_ | refine Ax hG Y Y Y Y Y Y Y (by omega) ?_ | refine Bb hG Y Y ?_)
      | refine Bc hG Y Y Y ?_
      | refine Bn hG Y Y Y ?_
      | refine r_build hG Y Y Y Y Y ?_
      | (show AOp _ _ ⟨_, .store _ _ _, _, _, _, _⟩ _ _ _; first | refine A0 (α := UInt16) 0 hG Y Y Y hT_cells hT_sc Y Y (by first | omega | (simp only [Array.size_setIfInBounds]; omega)) ?_ | refine A0 (α := UInt16) 1 hG Y Y Y hT_cells hT_sc Y Y (by first | omega | (simp only [Array.size_setIfInBounds]; omega)) ?_ | refine Bg 0 hG Y Y Y Y Y Y Y ?_ | refine Bg 1 hG Y Y Y Y Y Y Y ?_)
      | (show AOp _ _ ⟨_, .call ⟨.value _, _, _⟩, _, _, _, _⟩ _ _ _; first | refine B0 Y Y Y Y Y (by first | (apply hc <;> (first | assumption | omega | exact Ba _ _ | exact Bi _ | exact Bk _ _ | exact Bs _ | rfl | (simp; omega))) | fail) ?_ | fail)
      | refine r_q hG Y Y Y ?_); refine ke _ _ ?_)
    | (refine el_nil ⟨_, Y⟩ ?_; show AL _ _ _ _ _ _ _ _) | fail)
  repeat' (first
    | ((first | (show AL _ _ _ _ _ _ _ _; refine Ae Y ?_) | (show DL _ _ _ _ _ _ _; refine' A6 Y Y (fun K kk => ?_) ?_; try (show Go.Ts.T; rotate_left))); (first
      | refine Aq hG Y Y ?_
      | refine A5 hG Y Y ?_
      | (show AOp _ _ ⟨_, .call ⟨.builtin .len, _, _⟩, _, _, _, _⟩ _ _ _; first | refine Br hG Y Y Y Y ?_ | refine Bx hG Y Y Y Y Y ?_)
      | (show AOp _ _ ⟨_, .lookup _ _ _ _, _, _, _, _⟩ _ _ _; first | refine r_lookF hG Y Y Y Y Y Y Y Y Y ?_ | refine r_lookFo hG Y Y Y Y Y Y Y Y Y ?_ | refine B8 (n := 0) hG Y Y Y Y Y Y Y Y Y Y ?_ | refine B8 (n := 1) hG Y Y Y Y Y Y Y Y Y Y ?_)
      | (show AOp _ _ ⟨_, .mapUpdate _ _ _ _, _, _, _, _⟩ _ _ _; first | refine r_updL 0 hG Y Y Y Y Y Y Y Y ?_ | refine r_updL 1 hG Y Y Y Y Y Y Y Y ?_)
      | (show AOp _ _ ⟨_, .binOp .add _ _ _ _, _, _, _, _⟩ _ _ _; first | refine Ab hG Y Y Y Y Y (by omega) ?_ | refine Ab (m := 1) hG Y Y Y Y Y (by omega) ?_ | refine Aa hG Y Y Y Y Y (by omega) ?_)
      | (show AOp _ _ ⟨_, .binOp _ _ _ _ _, _, _, _, _⟩ _ _ _; first | refine Au hG Y Y Y Y Y (by omega) ?_ | refine At hG Y Y Y Y Y (by omega) ?_ | ((fail_if_success have := kk); refine Am hG Y Y Y Y Y (fun h => ?_) (fun h => ?_)) | refine Bl hG Y Y Y ?_ | refine Bv hG Y Y Y Y ?_)
      | (show AOp _ _ ⟨_, .load _ _, _, _, _, _⟩ _ _ _; first | refine A2 0 sbT hG Y Y Y Y Y (by omega) Y ?_ | refine A1 0 sbT hG Y Y Y Y Y (by omega) Y ?_ | refine A2 1 sbT hG Y Y Y Y Y (by omega) Y ?_ | refine A1 1 sbT hG Y Y Y Y Y (by omega) Y ?_ | refine A2 2 sbT hG Y Y Y Y Y (by omega) Y ?_ | refine A1 2 sbT hG Y Y Y Y Y (by omega) Y ?_ | refine A2 3 sbT hG Y Y Y Y Y (by omega) Y ?_ | refine A1 3 sbT hG Y Y Y Y Y (by omega) Y ?_ | refine Ak (α := UInt16) 0 hG Y Y Y Y (by omega) Y ?_ | refine Ak (α := UInt16) 1 hG Y Y Y Y (by omega) Y ?_ | refine Ay hG Y Y Y ?_ | refine A8 0 hG Y Y Y Y ?_ | refine A8 1 hG Y Y Y Y ?_)
      | (show AOp _ _ ⟨_, .indexAddr _ _ _, _, _, _, _⟩ _ _ _; first | refine Bw (sz := 4) hG Y Y Y Y Y Y Y (by omega) ?_ | refine A4 hG Y Y Y Y Y Y Y (by omega) ?_ | refine r_idx0 hG Y Y Y Y Y Y Y ?_ | refine Az hG Y Y Y Y Y Y Y (by omega) ?_ | refine Ax hG Y Y Y Y Y Y Y (by omega) ?_ | refine Bb hG Y Y ?_)
      | refine Bc hG Y Y Y ?_
      | refine Bn hG Y Y Y ?_
      | refine r_build hG Y Y Y Y Y ?_
      | (show AOp _ _ ⟨_, .store _ _ _, _, _, _, _⟩ _ _ _; fail)
      | refine r_q hG Y Y Y ?_); try exact kk)
    | (show AL _ _ _ _ _ _ _ _; first | refine Bj Y Y Y ?_ | (refine Ar ?_; first | show AW _ _ _ _ _ _ | show ∃ x', _ < _ ∧ _)) | (show AW _ _ (.seq _ _) _ _ _; refine Ah ?_; intro Q1) | (show AW _ _ (.region _ _ false) _ _ _; refine Ad ?_; intro O1) | (show AW _ _ (.cond _ _ _) _ _ _; first | refine Ao Y ?_ | refine Ap Y ?_ | refine Bf Y (fun h => ?_) (fun h => ?_)) | (show AW _ _ (.skip) _ _ _; refine Aj ?_; first | show AW _ _ _ _ _ _ | show ∃ x', _ < _ ∧ _) | (show AW _ _ (.ret) _ _ _; refine Av ?_; try dsimp only [A3, Ac, A7, Ag])
    | (show DL _ _ _ _ _ _ _; refine Bt Y Y (fun K kt kf => Am hG Y Y Y Y Y kt kf) (fun h => ?_) (fun h => ?_))
    | (show DL _ _ _ _ _ _ _; refine Bu Y Y Y ?_) | (show DL _ _ _ _ _ _ _; refine Bd ?_; first | show AW _ _ _ _ _ _ | show ∃ x', _ < _ ∧ _) | (show AW _ _ (.region _ _ true) _ _ _; refine Aw mix (by kernel_rfl) ?_; intro O1) | fail)
  have e : arL v ((s :: l').set j (bump ((s :: l').getD j default) id hid b)) (kset at' id (j : Int)) p i' m = [(p, .cells [bT v, .aref 4 i' 0 (s :: l').length none, .map (some m)]), (m, .map ((kset at' id (j : Int)).map kvT)), (i', .cells (flat (((s :: l').set j (bump ((s :: l').getD j default) id hid b)).map sbT)))] := by
    have hne : (s :: l').set j (bump ((s :: l').getD j default) id hid b) ≠ [] := by cases j <;> simp
    unfold arL
    rw [slT_ne hne, rowOf_ne hne, List.length_set]
  refine Ae rfl (r_stE 2 sbT (l := s :: l') (v := bump ((s :: l').getD j default) id hid b) (z := j) hG rfl rfl rfl rfl rfl rfl rfl hjl ?_)
  repeat' (first
    | ((first | (show AL _ _ _ _ _ _ _ _; refine Ae Y ?_) | (show DL _ _ _ _ _ _ _; refine' A6 Y Y (fun K kk => ?_) ?_; try (show Go.Ts.T; rotate_left))); (first
      | refine Aq hG Y Y ?_
      | refine A5 hG Y Y ?_
      | (show AOp _ _ ⟨_, .call ⟨.builtin .len, _, _⟩, _, _, _, _⟩ _ _ _; first | refine Br hG Y Y Y Y ?_ | refine Bx hG Y Y Y Y Y ?_)
      | (show AOp _ _ ⟨_, .lookup _ _ _ _, _, _, _, _⟩ _ _ _; first | refine r_lookF hG Y Y Y Y Y Y Y Y Y ?_ | refine r_lookFo hG Y Y Y Y Y Y Y Y Y ?_ | refine B8 (n := 0) hG Y Y Y Y Y Y Y Y Y Y ?_ | refine B8 (n := 1) hG Y Y Y Y Y Y Y Y Y Y ?_)
      | (show AOp _ _ ⟨_, .mapUpdate _ _ _ _, _, _, _, _⟩ _ _ _; first | refine r_updL 0 hG Y Y Y Y Y Y Y Y ?_ | refine r_updL 1 hG Y Y Y Y Y Y Y Y ?_)
      | (show AOp _ _ ⟨_, .binOp .add _ _ _ _, _, _, _, _⟩ _ _ _; first | refine Ab hG Y Y Y Y Y (by omega) ?_ | refine Ab (m := 1) hG Y Y Y Y Y (by omega) ?_ | refine Aa hG Y Y Y Y Y (by omega) ?_)
      | (show AOp _ _ ⟨_, .binOp _ _ _ _ _, _, _, _, _⟩ _ _ _; first | refine Au hG Y Y Y Y Y (by omega) ?_ | refine At hG Y Y Y Y Y (by omega) ?_ | ((fail_if_success have := kk); refine Am hG Y Y Y Y Y (fun h => ?_) (fun h => ?_)) | refine Bl hG Y Y Y ?_ | refine Bv hG Y Y Y Y ?_)
      | (show AOp _ _ ⟨_, .load _ _, _, _, _, _⟩ _ _ _; first | refine A2 0 sbT hG Y Y Y Y Y (by omega) Y ?_ | refine A1 0 sbT hG Y Y Y Y Y (by omega) Y ?_ | refine A2 1 sbT hG Y Y Y Y Y (by omega) Y ?_ | refine A1 1 sbT hG Y Y Y Y Y (by omega) Y ?_ | refine A2 2 sbT hG Y Y Y Y Y (by omega) Y ?_ | refine A1 2 sbT hG Y Y Y Y Y (by omega) Y ?_ | refine A2 3 sbT hG Y Y Y Y Y (by omega) Y ?_ | refine A1 3 sbT hG Y Y Y Y Y (by omega) Y ?_ | refine Ak (α := UInt16) 0 hG Y Y Y Y (by omega) Y ?_ | refine Ak (α := UInt16) 1 hG Y Y Y Y (by omega) Y ?_ | refine Ay hG Y Y Y ?_ | refine A8 0 hG Y Y Y Y ?_ | refine A8 1 hG Y Y Y Y ?_)
      | (show AOp _ _ ⟨_, .indexAddr _ _ _, _, _, _, _⟩ _ _ _; first | refine Bw (sz := 4) hG Y Y Y Y Y Y Y (by omega) ?_ | refine A4 hG Y Y Y Y Y Y Y (by omega) ?_ | refine r_idx0 hG Y Y Y Y Y Y Y ?_ | refine Az hG Y Y Y Y Y Y Y (by omega) ?_ | refine Ax hG Y Y Y Y Y Y Y (by omega) ?_ | refine Bb hG Y Y ?_)
      | refine Bc hG Y Y Y ?_
      | refine Bn hG Y Y Y ?_
      | refine r_build hG Y Y Y Y Y ?_
      | (show AOp _ _ ⟨_, .store _ _ _, _, _, _, _⟩ _ _ _; first | refine A0 (α := UInt16) 0 hG Y Y Y hT_cells hT_sc Y Y (by first | omega | (simp only [Array.size_setIfInBounds]; omega)) ?_ | refine A0 (α := UInt16) 1 hG Y Y Y hT_cells hT_sc Y Y (by first | omega | (simp only [Array.size_setIfInBounds]; omega)) ?_ | refine Bg 0 hG Y Y Y Y Y Y Y ?_ | refine Bg 1 hG Y Y Y Y Y Y Y ?_)
      | refine r_q hG Y Y Y ?_); try exact kk)
    | (show AL _ _ _ _ _ _ _ _; first | refine Bj Y Y Y ?_ | (refine Ar ?_; first | show AW _ _ _ _ _ _ | show ∃ x', _ < _ ∧ _)) | (show AW _ _ (.seq _ _) _ _ _; refine Ah ?_; intro Q1) | (show AW _ _ (.region _ _ false) _ _ _; refine Ad ?_; intro O1) | (show AW _ _ (.cond _ _ _) _ _ _; first | refine Ao Y ?_ | refine Ap Y ?_ | refine Bf Y (fun h => ?_) (fun h => ?_)) | (show AW _ _ (.skip) _ _ _; refine Aj ?_; first | show AW _ _ _ _ _ _ | show ∃ x', _ < _ ∧ _) | (show AW _ _ (.ret) _ _ _; refine Av ?_; try dsimp only [A3, Ac, A7, Ag])
    | (show DL _ _ _ _ _ _ _; refine Bt Y Y (fun K kt kf => Am hG Y Y Y Y Y kt kf) (fun h => ?_) (fun h => ?_))
    | (show DL _ _ _ _ _ _ _; refine Bu Y Y Y ?_) | (show DL _ _ _ _ _ _ _; refine Bd ?_; first | show AW _ _ _ _ _ _ | show ∃ x', _ < _ ∧ _) | (show AW _ _ (.region _ _ true) _ _ _; refine Aw mix (by kernel_rfl) ?_; intro O1) | fail)
  exact ret_onL (Bq rfl Bo) (.refl _) (.refl _) (.refl _) rfl ⟨i', rfl, e.symm⟩
end Go.Proofs.Ythfgocinlbogeaa
namespace Go.Ts
theorem ret_pureE {G : Nat → Option TI} {σ : St} {a : Env} {rs : List ResultVar} {ts : List T} {r : T} (h : ResRs G a σ rs ts) (hw : Wk (tup1 ts) r) (hnx : σ.nx = none) : retA G rs (fun u σ' => u = r ∧ σ' = ⟨[], [], σ.off, none⟩) .normal a σ := ret_pure h hw hnx
end Go.Ts
namespace Go.Proofs.Ythfgocinlbogeaa
open Go.Ts
set_option linter.unusedSimpArgs false
set_option linter.unusedVariables false
set_option linter.unnecessarySimpa false
attribute [local irreducible] Go.Ts.AW Go.Ts.AOps Go.Ts.AL Go.Ts.AOp Go.Ts.ACalls Go.Ts.DL Go.Ts.DQ0 Go.Ts.EL
abbrev n0T : T := .sl 1 .no []
theorem ins0 : Ts.Pure Try.prog 103 [n0T, .int .i64 0, .int .i64 0] (.tup []) := by
  intro off
  refine Bp (N := 49) (rs := []) hG Try.func103 rfl rfl rfl rfl rfl ?_
  repeat' (first
    | ((first | (show AL _ _ _ _ _ _ _ _; refine Ae Y ?_) | (show DL _ _ _ _ _ _ _; refine' A6 Y Y (fun K kk => ?_) ?_; try (show Go.Ts.T; rotate_left))); (first
      | refine Aq hG Y Y ?_
      | refine A5 hG Y Y ?_
      | (show AOp _ _ ⟨_, .binOp .add _ _ _ _, _, _, _, _⟩ _ _ _; first | refine Aa hG Y Y Y Y Y (by omega) ?_)
      | (show AOp _ _ ⟨_, .binOp .sub _ _ _ _, _, _, _, _⟩ _ _ _; first | refine Aa hG Y Y Y Y Y (by omega) ?_)
      | (show AOp _ _ ⟨_, .binOp _ _ _ _ _, _, _, _, _⟩ _ _ _; first | refine Au hG Y Y Y Y Y (by omega) ?_ | refine At hG Y Y Y Y Y (by omega) ?_ | ((fail_if_success have := kk); refine Am hG Y Y Y Y Y (fun h => ?_) (fun h => ?_)))
      | (show AOp _ _ ⟨_, .load _ _, _, _, _, _⟩ _ _ _; first | refine Ay hG Y Y Y ?_ | refine A8 0 hG Y Y Y Y ?_)
      | (show AOp _ _ ⟨_, .indexAddr _ _ _, _, _, _, _⟩ _ _ _; first | refine Az hG Y Y Y Y Y Y Y (by omega) ?_ | refine Ax hG Y Y Y Y Y Y Y (by omega) ?_ | refine Bb hG Y Y ?_)
      | refine Bc hG Y Y Y ?_
      | (show AOp _ _ ⟨_, .store _ _ _, _, _, _, _⟩ _ _ _; first | refine Bg 0 hG Y Y Y Y Y Y Y ?_)
      | refine r_q hG Y Y Y ?_); try exact kk)
    | (show AL _ _ _ _ _ _ _ _; first | refine Bj Y Y Y ?_ | (refine Ar ?_; first | show AW _ _ _ _ _ _ | show ∃ x', _ < _ ∧ _)) | (show AW _ _ (.seq _ _) _ _ _; refine Ah ?_; intro Q1) | (show AW _ _ (.region _ _ false) _ _ _; refine Ad ?_; intro O1) | (show AW _ _ (.cond _ _ _) _ _ _; first | refine Ao Y ?_ | refine Ap Y ?_) | (show AW _ _ (.skip) _ _ _; refine Aj ?_; first | show AW _ _ _ _ _ _ | show ∃ x', _ < _ ∧ _) | (show AW _ _ (.block _ _) _ _ _; refine Af ?_; intro Q1) | (show AW _ _ (.exit _) _ _ _; refine As ?_; first | show AW _ _ _ _ _ _ | show ∃ x', _ < _ ∧ _) | (show AW _ _ (.ret) _ _ _; refine Av ?_; try dsimp only [A3, Ac, A7, Ag])
    | (show DL _ _ _ _ _ _ _; refine Bt Y Y (fun K kt kf => Am hG Y Y Y Y Y kt kf) (fun h => ?_) (fun h => ?_))
    | (show DL _ _ _ _ _ _ _; refine Bu Y Y Y ?_) | (show DL _ _ _ _ _ _ _; refine Bd ?_; first | show AW _ _ _ _ _ _ | show ∃ x', _ < _ ∧ _) | (show AW _ _ (.region _ _ true) _ _ _; refine Aw mix (by kernel_rfl) ?_; intro O1) | fail)
  refine aw_loop (X := Unit) (fun _ => [(2, .int .i64 0), (6, .int .i64 1)]) (fun _ => ⟨[], [], off, none⟩) (fun _ => 0) () (by repeat (first | exact .nil _ | refine .cons rfl ?_)) (.refl _) ?_
  intro _
  repeat' (first
    | ((first | (show AL _ _ _ _ _ _ _ _; refine Ae Y ?_) | (show DL _ _ _ _ _ _ _; refine' A6 Y Y (fun K kk => ?_) ?_; try (show Go.Ts.T; rotate_left))); (first
      | refine Aq hG Y Y ?_
      | refine A5 hG Y Y ?_
      | (show AOp _ _ ⟨_, .binOp .add _ _ _ _, _, _, _, _⟩ _ _ _; first | refine Aa hG Y Y Y Y Y (by omega) ?_)
      | (show AOp _ _ ⟨_, .binOp .sub _ _ _ _, _, _, _, _⟩ _ _ _; first | refine Aa hG Y Y Y Y Y (by omega) ?_)
      | (show AOp _ _ ⟨_, .binOp _ _ _ _ _, _, _, _, _⟩ _ _ _; first | refine Au hG Y Y Y Y Y (by omega) ?_ | refine At hG Y Y Y Y Y (by omega) ?_ | ((fail_if_success have := kk); refine Am hG Y Y Y Y Y (fun h => ?_) (fun h => ?_)))
      | (show AOp _ _ ⟨_, .load _ _, _, _, _, _⟩ _ _ _; first | refine Ay hG Y Y Y ?_ | refine A8 0 hG Y Y Y Y ?_)
      | (show AOp _ _ ⟨_, .indexAddr _ _ _, _, _, _, _⟩ _ _ _; first | refine Az hG Y Y Y Y Y Y Y (by omega) ?_ | refine Ax hG Y Y Y Y Y Y Y (by omega) ?_ | refine Bb hG Y Y ?_)
      | refine Bc hG Y Y Y ?_
      | (show AOp _ _ ⟨_, .store _ _ _, _, _, _, _⟩ _ _ _; first | refine Bg 0 hG Y Y Y Y Y Y Y ?_)
      | refine r_q hG Y Y Y ?_); try exact kk)
    | (show AL _ _ _ _ _ _ _ _; first | refine Bj Y Y Y ?_ | (refine Ar ?_; first | show AW _ _ _ _ _ _ | show ∃ x', _ < _ ∧ _)) | (show AW _ _ (.seq _ _) _ _ _; refine Ah ?_; intro Q1) | (show AW _ _ (.region _ _ false) _ _ _; refine Ad ?_; intro O1) | (show AW _ _ (.cond _ _ _) _ _ _; first | refine Ao Y ?_ | refine Ap Y ?_) | (show AW _ _ (.skip) _ _ _; refine Aj ?_; first | show AW _ _ _ _ _ _ | show ∃ x', _ < _ ∧ _) | (show AW _ _ (.block _ _) _ _ _; refine Af ?_; intro Q1) | (show AW _ _ (.exit _) _ _ _; refine As ?_; first | show AW _ _ _ _ _ _ | show ∃ x', _ < _ ∧ _) | (show AW _ _ (.ret) _ _ _; refine Av ?_; try dsimp only [A3, Ac, A7, Ag])
    | (show DL _ _ _ _ _ _ _; refine Bt Y Y (fun K kt kf => Am hG Y Y Y Y Y kt kf) (fun h => ?_) (fun h => ?_))
    | (show DL _ _ _ _ _ _ _; refine Bu Y Y Y ?_) | (show DL _ _ _ _ _ _ _; refine Bd ?_; first | show AW _ _ _ _ _ _ | show ∃ x', _ < _ ∧ _) | (show AW _ _ (.region _ _ true) _ _ _; refine Aw mix (by kernel_rfl) ?_; intro O1) | fail)
  refine As ?_
  exact ret_pureE Bo (.refl _) rfl
theorem pdq0 : Ts.Pure Try.prog 90 [n0T, .int .i64 0, .int .i64 0, .int .i64 0] (.tup []) := by
  have h := ins0
  intro off
  refine Bp (N := 134) (rs := []) hG Try.func90 rfl rfl rfl rfl rfl ?_
  repeat' (first
    | ((first | (show AL _ _ _ _ _ _ _ _; refine Ae Y ?_) | (show DL _ _ _ _ _ _ _; refine' A6 Y Y (fun K kk => ?_) ?_; try (show Go.Ts.T; rotate_left))); (first
      | refine Aq hG Y Y ?_
      | refine A5 hG Y Y ?_
      | (show AOp _ _ ⟨_, .binOp .add _ _ _ _, _, _, _, _⟩ _ _ _; first | refine Aa hG Y Y Y Y Y (by omega) ?_)
      | (show AOp _ _ ⟨_, .binOp .sub _ _ _ _, _, _, _, _⟩ _ _ _; first | refine Aa hG Y Y Y Y Y (by omega) ?_)
      | (show AOp _ _ ⟨_, .binOp _ _ _ _ _, _, _, _, _⟩ _ _ _; first | refine Au hG Y Y Y Y Y (by omega) ?_ | refine At hG Y Y Y Y Y (by omega) ?_ | ((fail_if_success have := kk); refine Am hG Y Y Y Y Y (fun h => ?_) (fun h => ?_)) | refine Bl hG Y Y Y ?_)
      | (show AOp _ _ ⟨_, .load _ _, _, _, _, _⟩ _ _ _; first | refine Ay hG Y Y Y ?_ | refine A8 0 hG Y Y Y Y ?_)
      | (show AOp _ _ ⟨_, .indexAddr _ _ _, _, _, _, _⟩ _ _ _; first | refine Az hG Y Y Y Y Y Y Y (by omega) ?_ | refine Ax hG Y Y Y Y Y Y Y (by omega) ?_ | refine Bb hG Y Y ?_)
      | refine Bc hG Y Y Y ?_
      | refine Bn hG Y Y Y ?_
      | refine r_q hG Y Y Y ?_); try exact kk)
    | (show AL _ _ _ _ _ _ _ _; first | refine Bj Y Y Y ?_ | (refine Ar ?_; first | show AW _ _ _ _ _ _ | show ∃ x', _ < _ ∧ _)) | (show AW _ _ (.seq _ _) _ _ _; refine Ah ?_; intro Q1) | (show AW _ _ (.region _ _ false) _ _ _; refine Ad ?_; intro O1) | (show AW _ _ (.cond _ _ _) _ _ _; first | refine Ao Y ?_ | refine Ap Y ?_) | (show AW _ _ (.skip) _ _ _; refine Aj ?_; first | show AW _ _ _ _ _ _ | show ∃ x', _ < _ ∧ _) | (show AW _ _ (.block _ _) _ _ _; refine Af ?_; intro Q1) | (show AW _ _ (.exit _) _ _ _; refine As ?_; first | show AW _ _ _ _ _ _ | show ∃ x', _ < _ ∧ _) | (show AW _ _ (.ret) _ _ _; refine Av ?_; try dsimp only [A3, Ac, A7, Ag])
    | (show DL _ _ _ _ _ _ _; refine Bt Y Y (fun K kt kf => Am hG Y Y Y Y Y kt kf) (fun h => ?_) (fun h => ?_))
    | (show DL _ _ _ _ _ _ _; refine Bu Y Y Y ?_) | (show DL _ _ _ _ _ _ _; refine Bd ?_; first | show AW _ _ _ _ _ _ | show ∃ x', _ < _ ∧ _) | (show AW _ _ (.region _ _ true) _ _ _; refine Aw mix (by kernel_rfl) ?_; intro O1) | fail)
  refine aw_loop (X := Unit) (fun _ => [(0, n0T), (1, .int .i64 0), (2, .int .i64 0), (3, .int .i64 0)]) (fun _ => ⟨[], [], off, none⟩) (fun _ => 0) () (by repeat (first | exact .nil _ | refine .cons rfl ?_)) (.refl _) ?_
  intro _
  repeat' (first
    | ((first | (show AL _ _ _ _ _ _ _ _; refine Ae Y ?_) | (show DL _ _ _ _ _ _ _; refine' A6 Y Y (fun K kk => ?_) ?_; try (show Go.Ts.T; rotate_left))); (first
      | refine Aq hG Y Y ?_
      | refine A5 hG Y Y ?_
      | (show AOp _ _ ⟨_, .binOp .add _ _ _ _, _, _, _, _⟩ _ _ _; first | refine Aa hG Y Y Y Y Y (by omega) ?_)
      | (show AOp _ _ ⟨_, .binOp .sub _ _ _ _, _, _, _, _⟩ _ _ _; first | refine Aa hG Y Y Y Y Y (by omega) ?_)
      | (show AOp _ _ ⟨_, .binOp _ _ _ _ _, _, _, _, _⟩ _ _ _; first | refine Au hG Y Y Y Y Y (by omega) ?_ | refine At hG Y Y Y Y Y (by omega) ?_ | ((fail_if_success have := kk); refine Am hG Y Y Y Y Y (fun h => ?_) (fun h => ?_)) | refine Bl hG Y Y Y ?_)
      | (show AOp _ _ ⟨_, .load _ _, _, _, _, _⟩ _ _ _; first | refine Ay hG Y Y Y ?_ | refine A8 0 hG Y Y Y Y ?_)
      | (show AOp _ _ ⟨_, .indexAddr _ _ _, _, _, _, _⟩ _ _ _; first | refine Az hG Y Y Y Y Y Y Y (by omega) ?_ | refine Ax hG Y Y Y Y Y Y Y (by omega) ?_ | refine Bb hG Y Y ?_)
      | refine Bc hG Y Y Y ?_
      | refine Bn hG Y Y Y ?_
      | (show AOp _ _ ⟨_, .call ⟨.value _, _, _⟩, _, _, _, _⟩ _ _ _; first | refine B0 Y Y Y Y Y (by first | (apply h <;> (first | assumption | omega | exact Ba _ _ | exact Bi _ | exact Bk _ _ | exact Bs _ | rfl | (simp; omega))) | fail) ?_ | fail)
      | refine r_q hG Y Y Y ?_); try exact kk)
    | (show AL _ _ _ _ _ _ _ _; first | refine Bj Y Y Y ?_ | (refine Ar ?_; first | show AW _ _ _ _ _ _ | show ∃ x', _ < _ ∧ _)) | (show AW _ _ (.seq _ _) _ _ _; refine Ah ?_; intro Q1) | (show AW _ _ (.region _ _ false) _ _ _; refine Ad ?_; intro O1) | (show AW _ _ (.cond _ _ _) _ _ _; first | refine Ao Y ?_ | refine Ap Y ?_) | (show AW _ _ (.skip) _ _ _; refine Aj ?_; first | show AW _ _ _ _ _ _ | show ∃ x', _ < _ ∧ _) | (show AW _ _ (.block _ _) _ _ _; refine Af ?_; intro Q1) | (show AW _ _ (.exit _) _ _ _; refine As ?_; first | show AW _ _ _ _ _ _ | show ∃ x', _ < _ ∧ _) | (show AW _ _ (.ret) _ _ _; refine Av ?_; try dsimp only [A3, Ac, A7, Ag])
    | (show DL _ _ _ _ _ _ _; refine Bt Y Y (fun K kt kf => Am hG Y Y Y Y Y kt kf) (fun h => ?_) (fun h => ?_))
    | (show DL _ _ _ _ _ _ _; refine Bu Y Y Y ?_) | (show DL _ _ _ _ _ _ _; refine Bd ?_; first | show AW _ _ _ _ _ _ | show ∃ x', _ < _ ∧ _) | (show AW _ _ (.region _ _ true) _ _ _; refine Aw mix (by kernel_rfl) ?_; intro O1) | fail)
  exact ret_pure Bo (.refl _) rfl
theorem sort0 : Ts.Pure Try.prog 63 [.nilsl] (.tup []) := by
  refine Pure.weak (us := [n0T]) ?_ (wk1 (.nil 1))
  have h := pdq0
  have h1 := bits_Len (x := 0) (by omega)
  intro off
  refine Bp (N := 11) (rs := []) hG Try.func63 rfl rfl rfl rfl rfl ?_
  repeat' (first
    | ((show AL _ _ _ _ _ _ _ _; refine Ae Y ?_); (first
      | refine Aq hG Y Y ?_
      | refine A5 hG Y Y ?_
      | (show AOp _ _ ⟨_, .call ⟨.builtin .len, _, _⟩, _, _, _, _⟩ _ _ _; first | refine Br hG Y Y Y Y ?_ | refine Bx hG Y Y Y Y Y ?_)
      | (show AOp _ _ ⟨_, .convert _ _ _, _, _, _, _⟩ _ _ _; first | refine Ca hG Y Y Y Y Y (by omega) ?_ | refine r_cvw hG Y Y Y Y Y ?_)
      | (show AOp _ _ ⟨_, .call ⟨.value _, _, _⟩, _, _, _, _⟩ _ _ _; first | refine B0 Y Y Y Y Y (by first | (apply h <;> (first | assumption | omega | exact Ba _ _ | exact Bi _ | exact Bk _ _ | exact Bs _ | rfl | (simp; omega))) | fail) ?_ | refine B0 Y Y Y Y Y (by first | (apply h1 <;> (first | assumption | omega | exact Ba _ _ | exact Bi _ | exact Bk _ _ | exact Bs _ | rfl | (simp; omega))) | fail) ?_ | fail)
      | refine r_q hG Y Y Y ?_))
    | (show AL _ _ _ _ _ _ _ _; first | refine Bj Y Y Y ?_ | (refine Ar ?_; first | show AW _ _ _ _ _ _ | show ∃ x', _ < _ ∧ _)) | (show AW _ _ (.seq _ _) _ _ _; refine Ah ?_; intro Q1) | (show AW _ _ (.region _ _ false) _ _ _; refine Ad ?_; intro O1) | (show AW _ _ (.ret) _ _ _; refine Av ?_; try dsimp only [A3, Ac, A7, Ag]) | fail)
  refine Ar ?_
  exact ret_pureE Bo (.refl _) rfl
theorem chunks_one : ∀ (n : Nat) (cs : List T), cs.length = n → chunks 1 n cs = cs
  | 0, [], _ => rfl
  | n + 1, c :: cs, h => by
    simp only [chunks, List.headD_cons, List.drop_succ_cons, List.drop_zero, show Nat.beq 1 1 = true from rfl, cond_true]
    rw [chunks_one n cs (by simpa using h)]
def bE : List Nat → Nat → T
  | [], _ => .nilsl
  | x :: l, i => .aref 1 i 0 (x :: l).length none
theorem rowN_snoc (l : List Nat) (c : Nat) : (rowT mT l.toArray).drop 0 ++ flat [mT c] = rowT mT (l ++ [c]).toArray := by
  unfold rowT; simp [flat, Ai]
def srtL (l : List Nat) : List Nat := (Go.Sort.sort ltQ l.toArray).toList
theorem srtL_spec (l : List Nat) : (srtL l).Perm l ∧ (srtL l).Pairwise (fun x y => ¬ y < x) := by
  obtain ⟨⟨h1, _, h2⟩, h3⟩ := Go.Sort.sort_sorts ltQ ltQ_swo l.toArray
  unfold srtL
  generalize Go.Sort.sort ltQ l.toArray = s at *
  have h5 : s.size = l.length := by simpa using h1
  refine ⟨?_, ?_⟩
  · have h6 : s.toList.Perm (List.take s.size l) := by simpa [← h1] using h2
    rw [h5, List.take_length] at h6; exact h6
  · rw [List.pairwise_iff_getElem]
    intro i j hi hj hij
    have := h3 i j (Nat.zero_le _) hij (by rw [← h1]; simpa using hj)
    rw [getElem!_pos s j (by simpa using hj), getElem!_pos s i (by simpa using hi)] at this
    simpa [ltQ] using this
theorem sorted_eq : ∀ (a b : List Nat), a.Perm b → a.Pairwise (fun x y => ¬ y < x) → b.Pairwise (fun x y => ¬ y < x) → a = b
  | [], b, h, _, _ => h.nil_eq
  | x :: a, [], h, _, _ => absurd h.length_eq (by simp)
  | x :: a, y :: b, h, ha, hb => by
    obtain ⟨ha1, ha2⟩ := List.pairwise_cons.1 ha
    obtain ⟨hb1, hb2⟩ := List.pairwise_cons.1 hb
    have hxy : x = y := by
      have h1 : ¬ y < x := by
        rcases List.mem_cons.1 (h.mem_iff.2 (List.mem_cons_self : y ∈ y :: b)) with e | e
        · omega
        · exact ha1 y e
      have h2 : ¬ x < y := by
        rcases List.mem_cons.1 (h.mem_iff.1 (List.mem_cons_self : x ∈ x :: a)) with e | e
        · omega
        · exact hb1 x e
      omega
    subst hxy
    rw [sorted_eq a b (List.Perm.cons_inv h) ha2 hb2]
theorem srtL_len (l : List Nat) : (srtL l).length = l.length := (srtL_spec l).1.length_eq
theorem srtL_nil : srtL [] = [] := List.length_eq_zero_iff.1 (srtL_len [])
theorem srtL_up {l : List Nat} (h : l.Nodup) : (srtL l).Pairwise (· < ·) := by
  have h1 := (srtL_spec l).2
  have h2 : (srtL l).Nodup := (srtL_spec l).1.nodup_iff.2 h
  exact (h1.and h2).imp fun ⟨h3, h4⟩ => by omega
theorem up_ext {a b : List Nat} (ha : a.Pairwise (· < ·)) (hb : b.Pairwise (· < ·)) (h : ∀ x, x ∈ a ↔ x ∈ b) : a = b :=
  sorted_eq a b ((List.perm_ext_iff_of_nodup (ha.imp fun h => by omega) (hb.imp fun h => by omega)).2 h) (ha.imp fun h => by omega) (hb.imp fun h => by omega)
def insN (x : Nat) : List Nat → List Nat
  | [] => [x]
  | y :: l => if y < x then y :: insN x l else x :: y :: l
def isort (l : List Nat) : List Nat := l.foldl (fun a x => insN x a) []
theorem insN_perm (x : Nat) : ∀ l : List Nat, (insN x l).Perm (x :: l)
  | [] => .refl _
  | y :: l => by
    rw [insN]; split
    · exact ((insN_perm x l).cons y).trans (.swap x y l)
    · exact .refl _
theorem insN_sorted (x : Nat) : ∀ l : List Nat, l.Pairwise (fun x y => ¬ y < x) → (insN x l).Pairwise (fun x y => ¬ y < x)
  | [], _ => by simp [insN]
  | y :: l, h => by
    obtain ⟨h1, h2⟩ := List.pairwise_cons.1 h
    rw [insN]; split
    · rename_i h3
      refine List.pairwise_cons.2 ⟨fun z hz => ?_, insN_sorted x l h2⟩
      rcases List.mem_cons.1 ((insN_perm x l).mem_iff.1 hz) with rfl | hz
      · omega
      · exact h1 z hz
    · rename_i h3
      refine List.pairwise_cons.2 ⟨fun z hz => ?_, h⟩
      rcases List.mem_cons.1 hz with rfl | hz
      · exact h3
      · have := h1 z hz; omega
theorem isort_spec : ∀ (l a : List Nat), a.Pairwise (fun x y => ¬ y < x) → (l.foldl (fun a x => insN x a) a).Perm (l ++ a) ∧ (l.foldl (fun a x => insN x a) a).Pairwise (fun x y => ¬ y < x)
  | [], a, h => ⟨.refl _, h⟩
  | x :: l, a, h => by
    obtain ⟨h1, h2⟩ := isort_spec l (insN x a) (insN_sorted x a h)
    refine ⟨h1.trans (((insN_perm x a).append_left l).trans ?_), h2⟩
    rw [List.cons_append]; exact List.perm_middle
theorem srtL_isort (l : List Nat) : srtL l = isort l :=
  sorted_eq _ _ ((srtL_spec l).1.trans (by have := (isort_spec l [] .nil).1; rw [List.append_nil] at this; exact this.symm)) (srtL_spec l).2 (isort_spec l [] .nil).2
end Go.Proofs.Ythfgocinlbogeaa
namespace Go.Proofs.Ythfgocinlbogeaa
open Go.Ts
set_option linter.unusedSimpArgs false
set_option linter.unusedVariables false
set_option linter.unnecessarySimpa false
attribute [local irreducible] Go.Ts.AW Go.Ts.AOps Go.Ts.AL Go.Ts.AOp Go.Ts.ACalls Go.Ts.DL Go.Ts.DQ0 Go.Ts.EL
def namesOf (l : List SB) : List Nat := (l.filter (·.taken)).map (·.id)
def idsA (l : List SB) : List Nat := srtL (namesOf l)
def bL : List Nat → Nat → List (Nat × Ob)
  | [], _ => []
  | x :: l, i => [(i, .cells (rowT mT (x :: l).toArray))]
structure IdX (l : List SB) where
  i : Nat
  y : Nat
  hi : i ≤ l.length
theorem names_succ {l : List SB} {i : Nat} (h : i < l.length) : namesOf (l.take (i + 1)) = namesOf (l.take i) ++ (if (l.getD i default).taken = true then [(l.getD i default).id] else []) := by
  unfold namesOf
  rw [List.take_add_one, List.filter_append, List.map_append]
  congr 1
  simp only [List.getElem?_eq_getElem h, Option.toList_some, List.getD, Option.getD_some]
  by_cases hb : l[i].taken = true <;> simp [hb]
set_option maxHeartbeats 1000000 in
theorem arena_IDs (v : UInt8) (l : List SB) (at' : List (Nat × Int)) (hl : l.length ≤ 255) (p ri m : Nat) : OnL Try.prog 33 [.ptr p 0] (arL v l at' p ri m) (fun u L => u = .sl 1 .no ((idsA l).map mT) ∧ L = arL v l at' p ri m) := by
  intro off
  cases l with
  | nil =>
    have hs0 := sort0
    refine Bp (N := 28) (rs := [.tmp 2]) hG Try.func33 rfl rfl rfl rfl rfl ?_
    repeat' (first
    | ((show AL _ _ _ _ _ _ _ _; refine Ae Y ?_); (first
      | refine Aq hG Y Y ?_
      | refine A5 hG Y Y ?_
      | (show AOp _ _ ⟨_, .call ⟨.builtin .len, _, _⟩, _, _, _, _⟩ _ _ _; first | refine Br hG Y Y Y Y ?_ | refine Bx hG Y Y Y Y Y ?_)
      | (show AOp _ _ ⟨_, .binOp .add _ _ _ _, _, _, _, _⟩ _ _ _; first | refine Ab hG Y Y Y Y Y (by omega) ?_ | refine Ab (m := 1) hG Y Y Y Y Y (by omega) ?_ | refine Aa hG Y Y Y Y Y (by omega) ?_)
      | (show AOp _ _ ⟨_, .binOp _ _ _ _ _, _, _, _, _⟩ _ _ _; first | refine Au hG Y Y Y Y Y (by omega) ?_ | refine At hG Y Y Y Y Y (by omega) ?_ | (refine Am hG Y Y Y Y Y (fun h => ?_) (fun h => ?_)) | refine Bl hG Y Y Y ?_ | refine Bv hG Y Y Y Y ?_)
      | (show AOp _ _ ⟨_, .load _ _, _, _, _, _⟩ _ _ _; first | refine A2 0 sbT hG Y Y Y Y Y (by omega) Y ?_ | refine A1 0 sbT hG Y Y Y Y Y (by omega) Y ?_ | refine A2 1 sbT hG Y Y Y Y Y (by omega) Y ?_ | refine A1 1 sbT hG Y Y Y Y Y (by omega) Y ?_ | refine A2 2 sbT hG Y Y Y Y Y (by omega) Y ?_ | refine A1 2 sbT hG Y Y Y Y Y (by omega) Y ?_ | refine A2 3 sbT hG Y Y Y Y Y (by omega) Y ?_ | refine A1 3 sbT hG Y Y Y Y Y (by omega) Y ?_ | refine Ak (α := UInt16) 0 hG Y Y Y Y (by omega) Y ?_ | refine Ak (α := UInt16) 1 hG Y Y Y Y (by omega) Y ?_ | refine Ay hG Y Y Y ?_ | refine A8 0 hG Y Y Y Y ?_ | refine A8 1 hG Y Y Y Y ?_ | refine A8 2 hG Y Y Y Y ?_)
      | (show AOp _ _ ⟨_, .indexAddr _ _ _, _, _, _, _⟩ _ _ _; first | refine Bw (sz := 4) hG Y Y Y Y Y Y Y (by omega) ?_ | refine A4 hG Y Y Y Y Y Y Y (by omega) ?_ | refine Az hG Y Y Y Y Y Y Y (by omega) ?_ | refine Ax hG Y Y Y Y Y Y Y (by omega) ?_ | refine Bb hG Y Y ?_)
      | (show AOp _ _ ⟨_, .buildSlice _ _ _, _, _, _, _⟩ _ _ _; first | refine r_mk (sz := 1) hG Y Y Y Y Y Y Y ?_)
      | (show AOp _ _ ⟨_, .alloc _, _, _, _, _⟩ _ _ _; refine B9 hG Y Y (fun i => ?_))
      | (show AOp _ _ ⟨_, .store _ _ _, _, _, _, _⟩ _ _ _; first | refine A0 (α := UInt16) 0 hG Y Y Y hT_cells hT_sc Y Y (by first | omega | (simp only [Array.size_setIfInBounds]; omega)) ?_ | refine A0 (α := UInt16) 1 hG Y Y Y hT_cells hT_sc Y Y (by first | omega | (simp only [Array.size_setIfInBounds]; omega)) ?_ | refine Bg 0 hG Y Y Y Y Y Y Y ?_ | refine Bg 1 hG Y Y Y Y Y Y Y ?_ | refine Bg 2 hG Y Y Y Y Y Y Y ?_)
      | (show AOp _ _ ⟨_, .call ⟨.builtin .append, _, _⟩, _, _, _, _⟩ _ _ _; first | refine Cd (sz := 1) (xs := []) hG Y Y Y Y Y Y Y ⟨_, Y⟩ Y Y Y Y Y Y Y (by first | omega | (simp; omega)) (fun k => ?_) | refine r_appm 0 hG Y Y Y Y Y Y Y ⟨_, Y⟩ Y Y Y Y Y (by first | omega | (simp only [List.length_append, List.length_cons, List.length_nil]; omega)) (fun k => ?_) | fail)
      | refine r_q hG Y Y Y ?_))
    | (show AL _ _ _ _ _ _ _ _; first | refine Bj Y Y Y ?_ | (refine Ar ?_; first | show AW _ _ _ _ _ _ | show ∃ x', _ < _ ∧ _)) | (show AW _ _ (.seq _ _) _ _ _; refine Ah ?_; intro Q1) | (show AW _ _ (.region _ _ false) _ _ _; refine Ad ?_; intro O1) | (show AW _ _ (.cond _ _ _) _ _ _; first | refine Ao Y ?_ | refine Ap Y ?_ | refine Bf Y (fun h => ?_) (fun h => ?_)) | (show AW _ _ (.skip) _ _ _; refine Aj ?_; first | show AW _ _ _ _ _ _ | show ∃ x', _ < _ ∧ _) | (show AW _ _ (.block _ _) _ _ _; refine Af ?_; intro Q1) | (show AW _ _ (.exit _) _ _ _; refine As ?_; first | show AW _ _ _ _ _ _ | show ∃ x', _ < _ ∧ _) | (show AW _ _ (.ret) _ _ _; refine Av ?_; try dsimp only [A3, Ac, A7, Ag]) | fail)
    refine aw_loop (X := Unit) (fun _ => [(3, .nilsl), (12, .int .i64 0), (13, .int .i64 0)]) (fun _ => ⟨arL v [] at' p ri m, [], off, none⟩) (fun _ => 0) () (by repeat (first | exact .nil _ | refine .cons rfl ?_)) (.refl _) ?_
    intro _
    repeat' (first
    | ((show AL _ _ _ _ _ _ _ _; refine Ae Y ?_); (first
      | refine Aq hG Y Y ?_
      | refine A5 hG Y Y ?_
      | (show AOp _ _ ⟨_, .call ⟨.builtin .len, _, _⟩, _, _, _, _⟩ _ _ _; first | refine Br hG Y Y Y Y ?_ | refine Bx hG Y Y Y Y Y ?_)
      | (show AOp _ _ ⟨_, .binOp .add _ _ _ _, _, _, _, _⟩ _ _ _; first | refine Ab hG Y Y Y Y Y (by omega) ?_ | refine Ab (m := 1) hG Y Y Y Y Y (by omega) ?_ | refine Aa hG Y Y Y Y Y (by omega) ?_)
      | (show AOp _ _ ⟨_, .binOp _ _ _ _ _, _, _, _, _⟩ _ _ _; first | refine Au hG Y Y Y Y Y (by omega) ?_ | refine At hG Y Y Y Y Y (by omega) ?_ | (refine Am hG Y Y Y Y Y (fun h => ?_) (fun h => ?_)) | refine Bl hG Y Y Y ?_ | refine Bv hG Y Y Y Y ?_)
      | (show AOp _ _ ⟨_, .load _ _, _, _, _, _⟩ _ _ _; first | refine A2 0 sbT hG Y Y Y Y Y (by omega) Y ?_ | refine A1 0 sbT hG Y Y Y Y Y (by omega) Y ?_ | refine A2 1 sbT hG Y Y Y Y Y (by omega) Y ?_ | refine A1 1 sbT hG Y Y Y Y Y (by omega) Y ?_ | refine A2 2 sbT hG Y Y Y Y Y (by omega) Y ?_ | refine A1 2 sbT hG Y Y Y Y Y (by omega) Y ?_ | refine A2 3 sbT hG Y Y Y Y Y (by omega) Y ?_ | refine A1 3 sbT hG Y Y Y Y Y (by omega) Y ?_ | refine Ak (α := UInt16) 0 hG Y Y Y Y (by omega) Y ?_ | refine Ak (α := UInt16) 1 hG Y Y Y Y (by omega) Y ?_ | refine Ay hG Y Y Y ?_ | refine A8 0 hG Y Y Y Y ?_ | refine A8 1 hG Y Y Y Y ?_ | refine A8 2 hG Y Y Y Y ?_)
      | (show AOp _ _ ⟨_, .indexAddr _ _ _, _, _, _, _⟩ _ _ _; first | refine Bw (sz := 4) hG Y Y Y Y Y Y Y (by omega) ?_ | refine A4 hG Y Y Y Y Y Y Y (by omega) ?_ | refine Az hG Y Y Y Y Y Y Y (by omega) ?_ | refine Ax hG Y Y Y Y Y Y Y (by omega) ?_ | refine Bb hG Y Y ?_)
      | (show AOp _ _ ⟨_, .buildSlice _ _ _, _, _, _, _⟩ _ _ _; first | refine r_mk (sz := 1) hG Y Y Y Y Y Y Y ?_)
      | (show AOp _ _ ⟨_, .alloc _, _, _, _, _⟩ _ _ _; refine B9 hG Y Y (fun i => ?_))
      | (show AOp _ _ ⟨_, .store _ _ _, _, _, _, _⟩ _ _ _; first | refine A0 (α := UInt16) 0 hG Y Y Y hT_cells hT_sc Y Y (by first | omega | (simp only [Array.size_setIfInBounds]; omega)) ?_ | refine A0 (α := UInt16) 1 hG Y Y Y hT_cells hT_sc Y Y (by first | omega | (simp only [Array.size_setIfInBounds]; omega)) ?_ | refine Bg 0 hG Y Y Y Y Y Y Y ?_ | refine Bg 1 hG Y Y Y Y Y Y Y ?_ | refine Bg 2 hG Y Y Y Y Y Y Y ?_)
      | (show AOp _ _ ⟨_, .call ⟨.builtin .append, _, _⟩, _, _, _, _⟩ _ _ _; first | refine Cd (sz := 1) (xs := []) hG Y Y Y Y Y Y Y ⟨_, Y⟩ Y Y Y Y Y Y Y (by first | omega | (simp; omega)) (fun k => ?_) | refine r_appm 0 hG Y Y Y Y Y Y Y ⟨_, Y⟩ Y Y Y Y Y (by first | omega | (simp only [List.length_append, List.length_cons, List.length_nil]; omega)) (fun k => ?_) | fail)
      | (show AOp _ _ ⟨_, .call ⟨.value _, _, _⟩, _, _, _, _⟩ _ _ _; first | refine B0 Y Y Y Y Y (by first | (apply hs0 <;> (first | assumption | omega | exact Ba _ _ | exact Bi _ | exact Bk _ _ | exact Bs _ | rfl | (simp; omega))) | fail) ?_ | fail)
      | refine r_q hG Y Y Y ?_))
    | (show AL _ _ _ _ _ _ _ _; first | refine Bj Y Y Y ?_ | (refine Ar ?_; first | show AW _ _ _ _ _ _ | show ∃ x', _ < _ ∧ _)) | (show AW _ _ (.seq _ _) _ _ _; refine Ah ?_; intro Q1) | (show AW _ _ (.region _ _ false) _ _ _; refine Ad ?_; intro O1) | (show AW _ _ (.cond _ _ _) _ _ _; first | refine Ao Y ?_ | refine Ap Y ?_ | refine Bf Y (fun h => ?_) (fun h => ?_)) | (show AW _ _ (.skip) _ _ _; refine Aj ?_; first | show AW _ _ _ _ _ _ | show ∃ x', _ < _ ∧ _) | (show AW _ _ (.block _ _) _ _ _; refine Af ?_; intro Q1) | (show AW _ _ (.exit _) _ _ _; refine As ?_; first | show AW _ _ _ _ _ _ | show ∃ x', _ < _ ∧ _) | (show AW _ _ (.ret) _ _ _; refine Av ?_; try dsimp only [A3, Ac, A7, Ag]) | fail)
    refine ret_onL (Bq rfl Bo) (.refl _) (.refl _) (.nil 1) rfl ⟨?_, rfl⟩
    rw [show idsA [] = [] from srtL_nil]; rfl
  | cons s l' =>
    obtain ⟨l, hll⟩ : ∃ l, s :: l' = l := ⟨_, rfl⟩
    have hne : l ≠ [] := by rw [← hll]; simp
    rw [hll] at hl ⊢
    have hA : arL v l at' p ri m = [(p, .cells [bT v, .aref 4 ri 0 l.length none, .map (some m)]), (m, .map (at'.map kvT)), (ri, .cells (flat (l.map sbT)))] := by
      unfold arL; rw [slT_ne hne, rowOf_ne hne]
    rw [hA]
    clear hll
    refine Bp (N := 28) (rs := [.tmp 2]) hG Try.func33 rfl rfl rfl rfl rfl ?_
    repeat' (first
    | ((show AL _ _ _ _ _ _ _ _; refine Ae Y ?_); (first
      | refine Aq hG Y Y ?_
      | refine A5 hG Y Y ?_
      | (show AOp _ _ ⟨_, .call ⟨.builtin .len, _, _⟩, _, _, _, _⟩ _ _ _; first | refine Br hG Y Y Y Y ?_ | refine Bx hG Y Y Y Y Y ?_)
      | (show AOp _ _ ⟨_, .binOp .add _ _ _ _, _, _, _, _⟩ _ _ _; first | refine Ab hG Y Y Y Y Y (by omega) ?_ | refine Ab (m := 1) hG Y Y Y Y Y (by omega) ?_ | refine Aa hG Y Y Y Y Y (by omega) ?_)
      | (show AOp _ _ ⟨_, .binOp _ _ _ _ _, _, _, _, _⟩ _ _ _; first | refine Au hG Y Y Y Y Y (by omega) ?_ | refine At hG Y Y Y Y Y (by omega) ?_ | (refine Am hG Y Y Y Y Y (fun h => ?_) (fun h => ?_)) | refine Bl hG Y Y Y ?_ | refine Bv hG Y Y Y Y ?_)
      | (show AOp _ _ ⟨_, .load _ _, _, _, _, _⟩ _ _ _; first | refine A2 0 sbT hG Y Y Y Y Y (by omega) Y ?_ | refine A1 0 sbT hG Y Y Y Y Y (by omega) Y ?_ | refine A2 1 sbT hG Y Y Y Y Y (by omega) Y ?_ | refine A1 1 sbT hG Y Y Y Y Y (by omega) Y ?_ | refine A2 2 sbT hG Y Y Y Y Y (by omega) Y ?_ | refine A1 2 sbT hG Y Y Y Y Y (by omega) Y ?_ | refine A2 3 sbT hG Y Y Y Y Y (by omega) Y ?_ | refine A1 3 sbT hG Y Y Y Y Y (by omega) Y ?_ | refine Ak (α := UInt16) 0 hG Y Y Y Y (by omega) Y ?_ | refine Ak (α := UInt16) 1 hG Y Y Y Y (by omega) Y ?_ | refine Ay hG Y Y Y ?_ | refine A8 0 hG Y Y Y Y ?_ | refine A8 1 hG Y Y Y Y ?_ | refine A8 2 hG Y Y Y Y ?_)
      | (show AOp _ _ ⟨_, .indexAddr _ _ _, _, _, _, _⟩ _ _ _; first | refine Bw (sz := 4) hG Y Y Y Y Y Y Y (by omega) ?_ | refine A4 hG Y Y Y Y Y Y Y (by omega) ?_ | refine Az hG Y Y Y Y Y Y Y (by omega) ?_ | refine Ax hG Y Y Y Y Y Y Y (by omega) ?_ | refine Bb hG Y Y ?_)
      | (show AOp _ _ ⟨_, .buildSlice _ _ _, _, _, _, _⟩ _ _ _; first | refine r_mk (sz := 1) hG Y Y Y Y Y Y Y ?_)
      | (show AOp _ _ ⟨_, .alloc _, _, _, _, _⟩ _ _ _; refine B9 hG Y Y (fun i => ?_))
      | (show AOp _ _ ⟨_, .store _ _ _, _, _, _, _⟩ _ _ _; first | refine A0 (α := UInt16) 0 hG Y Y Y hT_cells hT_sc Y Y (by first | omega | (simp only [Array.size_setIfInBounds]; omega)) ?_ | refine A0 (α := UInt16) 1 hG Y Y Y hT_cells hT_sc Y Y (by first | omega | (simp only [Array.size_setIfInBounds]; omega)) ?_ | refine Bg 0 hG Y Y Y Y Y Y Y ?_ | refine Bg 1 hG Y Y Y Y Y Y Y ?_ | refine Bg 2 hG Y Y Y Y Y Y Y ?_)
      | (show AOp _ _ ⟨_, .call ⟨.builtin .append, _, _⟩, _, _, _, _⟩ _ _ _; first | refine Cd (sz := 1) (xs := []) hG Y Y Y Y Y Y Y ⟨_, Y⟩ Y Y Y Y Y Y Y (by first | omega | (simp; omega)) (fun k => ?_) | refine r_appm 0 hG Y Y Y Y Y Y Y ⟨_, Y⟩ Y Y Y Y Y (by first | omega | (simp only [List.length_append, List.length_cons, List.length_nil]; omega)) (fun k => ?_) | fail)
      | refine r_q hG Y Y Y ?_))
    | (show AL _ _ _ _ _ _ _ _; first | refine Bj Y Y Y ?_ | (refine Ar ?_; first | show AW _ _ _ _ _ _ | show ∃ x', _ < _ ∧ _)) | (show AW _ _ (.seq _ _) _ _ _; refine Ah ?_; intro Q1) | (show AW _ _ (.region _ _ false) _ _ _; refine Ad ?_; intro O1) | (show AW _ _ (.cond _ _ _) _ _ _; first | refine Ao Y ?_ | refine Ap Y ?_ | refine Bf Y (fun h => ?_) (fun h => ?_)) | (show AW _ _ (.skip) _ _ _; refine Aj ?_; first | show AW _ _ _ _ _ _ | show ∃ x', _ < _ ∧ _) | (show AW _ _ (.block _ _) _ _ _; refine Af ?_; intro Q1) | (show AW _ _ (.exit _) _ _ _; refine As ?_; first | show AW _ _ _ _ _ _ | show ∃ x', _ < _ ∧ _) | (show AW _ _ (.ret) _ _ _; refine Av ?_; try dsimp only [A3, Ac, A7, Ag]) | fail)
    refine aw_loop (X := IdX l) (fun x => [(3, bE (namesOf (l.take x.i)) x.y), (11, .aref 4 ri 0 l.length none), (12, .int .i64 (l.length : Int)), (13, .int .i64 (x.i : Int))]) (fun x => ⟨bL (namesOf (l.take x.i)) x.y ++ [(p, .cells [bT v, .aref 4 ri 0 l.length none, .map (some m)]), (m, .map (at'.map kvT)), (ri, .cells (flat (l.map sbT)))], [], off, none⟩) (fun x => l.length - x.i) ⟨0, 0, Nat.zero_le _⟩ (by repeat (first | exact .nil _ | refine .cons rfl ?_)) (.refl _) ?_
    rintro ⟨q, y, hi⟩
    dsimp only
    have hgl : (namesOf (l.take q)).length ≤ 255 := by
      unfold namesOf
      rw [List.length_map]
      refine Nat.le_trans (List.length_filter_le _ _) ?_
      rw [List.length_take]; omega
    by_cases hil : q < l.length
    · have hks := names_succ hil
      generalize namesOf (l.take q) = g at *
      have hsc : ∀ s : SB, (notRaw (sbT s) && (sbT s).cells.all T.scalar) = true := fun s => by
        unfold sbT recT
        cases s.taken <;> rfl
      cases ht : (l.getD q default).taken with
      | true =>
        rw [if_pos ht] at hks
        cases g with
        | nil =>
          repeat' (first
    | ((show AL _ _ _ _ _ _ _ _; refine Ae Y ?_); (first
      | refine Aq hG Y Y ?_
      | refine A5 hG Y Y ?_
      | (show AOp _ _ ⟨_, .call ⟨.builtin .len, _, _⟩, _, _, _, _⟩ _ _ _; first | refine Br hG Y Y Y Y ?_ | refine Bx hG Y Y Y Y Y ?_)
      | (show AOp _ _ ⟨_, .binOp .add _ _ _ _, _, _, _, _⟩ _ _ _; first | refine Ab hG Y Y Y Y Y (by omega) ?_ | refine Ab (m := 1) hG Y Y Y Y Y (by omega) ?_ | refine Aa hG Y Y Y Y Y (by omega) ?_)
      | (show AOp _ _ ⟨_, .binOp _ _ _ _ _, _, _, _, _⟩ _ _ _; first | refine Au hG Y Y Y Y Y (by omega) ?_ | refine At hG Y Y Y Y Y (by omega) ?_ | (refine Am hG Y Y Y Y Y (fun h => ?_) (fun h => ?_)) | refine Bl hG Y Y Y ?_ | refine Bv hG Y Y Y Y ?_)
      | (show AOp _ _ ⟨_, .load _ _, _, _, _, _⟩ _ _ _; first | refine A2 0 sbT hG Y Y Y Y Y (by omega) Y ?_ | refine A1 0 sbT hG Y Y Y Y Y (by omega) Y ?_ | refine A2 1 sbT hG Y Y Y Y Y (by omega) Y ?_ | refine A1 1 sbT hG Y Y Y Y Y (by omega) Y ?_ | refine A2 2 sbT hG Y Y Y Y Y (by omega) Y ?_ | refine A1 2 sbT hG Y Y Y Y Y (by omega) Y ?_ | refine A2 3 sbT hG Y Y Y Y Y (by omega) Y ?_ | refine A1 3 sbT hG Y Y Y Y Y (by omega) Y ?_ | refine Ak (α := UInt16) 0 hG Y Y Y Y (by omega) Y ?_ | refine Ak (α := UInt16) 1 hG Y Y Y Y (by omega) Y ?_ | refine Ay hG Y Y Y ?_ | refine A8 0 hG Y Y Y Y ?_ | refine A8 1 hG Y Y Y Y ?_ | refine A8 2 hG Y Y Y Y ?_)
      | (show AOp _ _ ⟨_, .indexAddr _ _ _, _, _, _, _⟩ _ _ _; first | refine Bw (sz := 4) hG Y Y Y Y Y Y Y (by omega) ?_ | refine A4 hG Y Y Y Y Y Y Y (by omega) ?_ | refine Az hG Y Y Y Y Y Y Y (by omega) ?_ | refine Ax hG Y Y Y Y Y Y Y (by omega) ?_ | refine Bb hG Y Y ?_)
      | (show AOp _ _ ⟨_, .buildSlice _ _ _, _, _, _, _⟩ _ _ _; first | refine r_mk (sz := 1) hG Y Y Y Y Y Y Y ?_)
      | (show AOp _ _ ⟨_, .alloc _, _, _, _, _⟩ _ _ _; refine B9 hG Y Y (fun i => ?_))
      | (show AOp _ _ ⟨_, .store _ _ _, _, _, _, _⟩ _ _ _; fail)
      | (show AOp _ _ ⟨_, .call ⟨.builtin .append, _, _⟩, _, _, _, _⟩ _ _ _; first | refine Cd (sz := 1) (xs := []) hG Y Y Y Y Y Y Y ⟨_, Y⟩ Y Y Y Y Y Y Y (by first | omega | (simp; omega)) (fun k => ?_) | refine r_appm 0 hG Y Y Y Y Y Y Y ⟨_, Y⟩ Y Y Y Y Y (by first | omega | (simp only [List.length_append, List.length_cons, List.length_nil]; omega)) (fun k => ?_) | fail)
      | refine r_q hG Y Y Y ?_))
    | (show AL _ _ _ _ _ _ _ _; first | refine Bj Y Y Y ?_ | (refine Ar ?_; first | show AW _ _ _ _ _ _ | show ∃ x', _ < _ ∧ _)) | (show AW _ _ (.seq _ _) _ _ _; refine Ah ?_; intro Q1) | (show AW _ _ (.region _ _ false) _ _ _; refine Ad ?_; intro O1) | (show AW _ _ (.cond _ _ _) _ _ _; first | refine Ao Y ?_ | refine Ap Y ?_ | refine Bf Y (fun h => ?_) (fun h => ?_)) | (show AW _ _ (.skip) _ _ _; refine Aj ?_; first | show AW _ _ _ _ _ _ | show ∃ x', _ < _ ∧ _) | (show AW _ _ (.block _ _) _ _ _; refine Af ?_; intro Q1) | (show AW _ _ (.exit _) _ _ _; refine As ?_; first | show AW _ _ _ _ _ _ | show ∃ x', _ < _ ∧ _) | (show AW _ _ (.ret) _ _ _; refine Av ?_; try dsimp only [A3, Ac, A7, Ag]) | fail)
          refine Ae rfl ?_
          refine Bg 0 (u := sbT (l.getD q default)) hG rfl rfl rfl (hsc _) rfl rfl rfl ?_
          repeat' (first
    | ((show AL _ _ _ _ _ _ _ _; refine Ae Y ?_); (first
      | refine Aq hG Y Y ?_
      | refine A5 hG Y Y ?_
      | (show AOp _ _ ⟨_, .call ⟨.builtin .len, _, _⟩, _, _, _, _⟩ _ _ _; first | refine Br hG Y Y Y Y ?_ | refine Bx hG Y Y Y Y Y ?_)
      | (show AOp _ _ ⟨_, .binOp .add _ _ _ _, _, _, _, _⟩ _ _ _; first | refine Ab hG Y Y Y Y Y (by omega) ?_ | refine Ab (m := 1) hG Y Y Y Y Y (by omega) ?_ | refine Aa hG Y Y Y Y Y (by omega) ?_)
      | (show AOp _ _ ⟨_, .binOp _ _ _ _ _, _, _, _, _⟩ _ _ _; first | refine Au hG Y Y Y Y Y (by omega) ?_ | refine At hG Y Y Y Y Y (by omega) ?_ | (refine Am hG Y Y Y Y Y (fun h => ?_) (fun h => ?_)) | refine Bl hG Y Y Y ?_ | refine Bv hG Y Y Y Y ?_)
      | (show AOp _ _ ⟨_, .load _ _, _, _, _, _⟩ _ _ _; first | refine A2 0 sbT hG Y Y Y Y Y (by omega) Y ?_ | refine A1 0 sbT hG Y Y Y Y Y (by omega) Y ?_ | refine A2 1 sbT hG Y Y Y Y Y (by omega) Y ?_ | refine A1 1 sbT hG Y Y Y Y Y (by omega) Y ?_ | refine A2 2 sbT hG Y Y Y Y Y (by omega) Y ?_ | refine A1 2 sbT hG Y Y Y Y Y (by omega) Y ?_ | refine A2 3 sbT hG Y Y Y Y Y (by omega) Y ?_ | refine A1 3 sbT hG Y Y Y Y Y (by omega) Y ?_ | refine Ak (α := UInt16) 0 hG Y Y Y Y (by omega) Y ?_ | refine Ak (α := UInt16) 1 hG Y Y Y Y (by omega) Y ?_ | refine Ay hG Y Y Y ?_ | refine A8 0 hG Y Y Y Y ?_ | refine A8 1 hG Y Y Y Y ?_ | refine A8 2 hG Y Y Y Y ?_)
      | (show AOp _ _ ⟨_, .indexAddr _ _ _, _, _, _, _⟩ _ _ _; first | refine Bw (sz := 4) hG Y Y Y Y Y Y Y (by omega) ?_ | refine A4 hG Y Y Y Y Y Y Y (by omega) ?_ | refine Az hG Y Y Y Y Y Y Y (by omega) ?_ | refine Ax hG Y Y Y Y Y Y Y (by omega) ?_ | refine Bb hG Y Y ?_)
      | (show AOp _ _ ⟨_, .buildSlice _ _ _, _, _, _, _⟩ _ _ _; first | refine r_mk (sz := 1) hG Y Y Y Y Y Y Y ?_)
      | (show AOp _ _ ⟨_, .alloc _, _, _, _, _⟩ _ _ _; refine B9 hG Y Y (fun i => ?_))
      | (show AOp _ _ ⟨_, .store _ _ _, _, _, _, _⟩ _ _ _; first | refine A0 (α := UInt16) 0 hG Y Y Y hT_cells hT_sc Y Y (by first | omega | (simp only [Array.size_setIfInBounds]; omega)) ?_ | refine A0 (α := UInt16) 1 hG Y Y Y hT_cells hT_sc Y Y (by first | omega | (simp only [Array.size_setIfInBounds]; omega)) ?_ | refine Bg 0 hG Y Y Y Y Y Y Y ?_ | refine Bg 1 hG Y Y Y Y Y Y Y ?_ | refine Bg 2 hG Y Y Y Y Y Y Y ?_)
      | (show AOp _ _ ⟨_, .call ⟨.builtin .append, _, _⟩, _, _, _, _⟩ _ _ _; fail)
      | refine r_q hG Y Y Y ?_))
    | (show AL _ _ _ _ _ _ _ _; first | refine Bj Y Y Y ?_ | (refine Ar ?_; first | show AW _ _ _ _ _ _ | show ∃ x', _ < _ ∧ _)) | (show AW _ _ (.seq _ _) _ _ _; refine Ah ?_; intro Q1) | (show AW _ _ (.region _ _ false) _ _ _; refine Ad ?_; intro O1) | (show AW _ _ (.cond _ _ _) _ _ _; first | refine Ao Y ?_ | refine Ap Y ?_ | refine Bf Y (fun h => ?_) (fun h => ?_)) | (show AW _ _ (.skip) _ _ _; refine Aj ?_; first | show AW _ _ _ _ _ _ | show ∃ x', _ < _ ∧ _) | (show AW _ _ (.block _ _) _ _ _; refine Af ?_; intro Q1) | (show AW _ _ (.exit _) _ _ _; refine As ?_; first | show AW _ _ _ _ _ _ | show ∃ x', _ < _ ∧ _) | (show AW _ _ (.ret) _ _ _; refine Av ?_; try dsimp only [A3, Ac, A7, Ag]) | fail)
          rotate_left
          · exact absurd (ht.symm.trans h) (by decide)
          refine Ae rfl (aop_app0L (objs := fun _ => none) (ys := [mT (l.getD q default).id]) hG rfl rfl rfl rfl rfl ⟨_, rfl⟩ rfl rfl (fun i o h => by cases h) rfl rfl (by simp) (by simp) rfl (fun i' hi' => ?_))
          repeat' (first
    | ((show AL _ _ _ _ _ _ _ _; refine Ae Y ?_); (first
      | refine Aq hG Y Y ?_
      | refine A5 hG Y Y ?_
      | (show AOp _ _ ⟨_, .call ⟨.builtin .len, _, _⟩, _, _, _, _⟩ _ _ _; first | refine Br hG Y Y Y Y ?_ | refine Bx hG Y Y Y Y Y ?_)
      | (show AOp _ _ ⟨_, .binOp .add _ _ _ _, _, _, _, _⟩ _ _ _; first | refine Ab hG Y Y Y Y Y (by omega) ?_ | refine Ab (m := 1) hG Y Y Y Y Y (by omega) ?_ | refine Aa hG Y Y Y Y Y (by omega) ?_)
      | (show AOp _ _ ⟨_, .binOp _ _ _ _ _, _, _, _, _⟩ _ _ _; first | refine Au hG Y Y Y Y Y (by omega) ?_ | refine At hG Y Y Y Y Y (by omega) ?_ | (refine Am hG Y Y Y Y Y (fun h => ?_) (fun h => ?_)) | refine Bl hG Y Y Y ?_ | refine Bv hG Y Y Y Y ?_)
      | (show AOp _ _ ⟨_, .load _ _, _, _, _, _⟩ _ _ _; first | refine A2 0 sbT hG Y Y Y Y Y (by omega) Y ?_ | refine A1 0 sbT hG Y Y Y Y Y (by omega) Y ?_ | refine A2 1 sbT hG Y Y Y Y Y (by omega) Y ?_ | refine A1 1 sbT hG Y Y Y Y Y (by omega) Y ?_ | refine A2 2 sbT hG Y Y Y Y Y (by omega) Y ?_ | refine A1 2 sbT hG Y Y Y Y Y (by omega) Y ?_ | refine A2 3 sbT hG Y Y Y Y Y (by omega) Y ?_ | refine A1 3 sbT hG Y Y Y Y Y (by omega) Y ?_ | refine Ak (α := UInt16) 0 hG Y Y Y Y (by omega) Y ?_ | refine Ak (α := UInt16) 1 hG Y Y Y Y (by omega) Y ?_ | refine Ay hG Y Y Y ?_ | refine A8 0 hG Y Y Y Y ?_ | refine A8 1 hG Y Y Y Y ?_ | refine A8 2 hG Y Y Y Y ?_)
      | (show AOp _ _ ⟨_, .indexAddr _ _ _, _, _, _, _⟩ _ _ _; first | refine Bw (sz := 4) hG Y Y Y Y Y Y Y (by omega) ?_ | refine A4 hG Y Y Y Y Y Y Y (by omega) ?_ | refine Az hG Y Y Y Y Y Y Y (by omega) ?_ | refine Ax hG Y Y Y Y Y Y Y (by omega) ?_ | refine Bb hG Y Y ?_)
      | (show AOp _ _ ⟨_, .buildSlice _ _ _, _, _, _, _⟩ _ _ _; first | refine r_mk (sz := 1) hG Y Y Y Y Y Y Y ?_)
      | (show AOp _ _ ⟨_, .alloc _, _, _, _, _⟩ _ _ _; refine B9 hG Y Y (fun i => ?_))
      | (show AOp _ _ ⟨_, .store _ _ _, _, _, _, _⟩ _ _ _; first | refine A0 (α := UInt16) 0 hG Y Y Y hT_cells hT_sc Y Y (by first | omega | (simp only [Array.size_setIfInBounds]; omega)) ?_ | refine A0 (α := UInt16) 1 hG Y Y Y hT_cells hT_sc Y Y (by first | omega | (simp only [Array.size_setIfInBounds]; omega)) ?_ | refine Bg 0 hG Y Y Y Y Y Y Y ?_ | refine Bg 1 hG Y Y Y Y Y Y Y ?_ | refine Bg 2 hG Y Y Y Y Y Y Y ?_)
      | (show AOp _ _ ⟨_, .call ⟨.builtin .append, _, _⟩, _, _, _, _⟩ _ _ _; first | refine Cd (sz := 1) (xs := []) hG Y Y Y Y Y Y Y ⟨_, Y⟩ Y Y Y Y Y Y Y (by first | omega | (simp; omega)) (fun k => ?_) | refine r_appm 0 hG Y Y Y Y Y Y Y ⟨_, Y⟩ Y Y Y Y Y (by first | omega | (simp only [List.length_append, List.length_cons, List.length_nil]; omega)) (fun k => ?_) | fail)
      | refine r_q hG Y Y Y ?_))
    | (show AL _ _ _ _ _ _ _ _; first | refine Bj Y Y Y ?_ | (refine Ar ?_; first | show AW _ _ _ _ _ _ | show ∃ x', _ < _ ∧ _)) | (show AW _ _ (.seq _ _) _ _ _; refine Ah ?_; intro Q1) | (show AW _ _ (.region _ _ false) _ _ _; refine Ad ?_; intro O1) | (show AW _ _ (.cond _ _ _) _ _ _; first | refine Ao Y ?_ | refine Ap Y ?_ | refine Bf Y (fun h => ?_) (fun h => ?_)) | (show AW _ _ (.skip) _ _ _; refine Aj ?_; first | show AW _ _ _ _ _ _ | show ∃ x', _ < _ ∧ _) | (show AW _ _ (.block _ _) _ _ _; refine Af ?_; intro Q1) | (show AW _ _ (.exit _) _ _ _; refine As ?_; first | show AW _ _ _ _ _ _ | show ∃ x', _ < _ ∧ _) | (show AW _ _ (.ret) _ _ _; refine Av ?_; try dsimp only [A3, Ac, A7, Ag]) | fail)
          exact ⟨⟨q + 1, i', by omega⟩, by dsimp only; omega, .consW rfl (.eq (by dsimp only; rw [hks]; rfl)) (.cons rfl (.cons rfl (.cons rfl (.nil _)))), by
            dsimp only; rw [hks]
            exact keep_step (R' := []) (.cons_cons _ (List.sublist_cons_self _ _)) (List.nil_sublist _)⟩
        | cons z g =>
          repeat' (first
    | ((show AL _ _ _ _ _ _ _ _; refine Ae Y ?_); (first
      | refine Aq hG Y Y ?_
      | refine A5 hG Y Y ?_
      | (show AOp _ _ ⟨_, .call ⟨.builtin .len, _, _⟩, _, _, _, _⟩ _ _ _; first | refine Br hG Y Y Y Y ?_ | refine Bx hG Y Y Y Y Y ?_)
      | (show AOp _ _ ⟨_, .binOp .add _ _ _ _, _, _, _, _⟩ _ _ _; first | refine Ab hG Y Y Y Y Y (by omega) ?_ | refine Ab (m := 1) hG Y Y Y Y Y (by omega) ?_ | refine Aa hG Y Y Y Y Y (by omega) ?_)
      | (show AOp _ _ ⟨_, .binOp _ _ _ _ _, _, _, _, _⟩ _ _ _; first | refine Au hG Y Y Y Y Y (by omega) ?_ | refine At hG Y Y Y Y Y (by omega) ?_ | (refine Am hG Y Y Y Y Y (fun h => ?_) (fun h => ?_)) | refine Bl hG Y Y Y ?_ | refine Bv hG Y Y Y Y ?_)
      | (show AOp _ _ ⟨_, .load _ _, _, _, _, _⟩ _ _ _; first | refine A2 0 sbT hG Y Y Y Y Y (by omega) Y ?_ | refine A1 0 sbT hG Y Y Y Y Y (by omega) Y ?_ | refine A2 1 sbT hG Y Y Y Y Y (by omega) Y ?_ | refine A1 1 sbT hG Y Y Y Y Y (by omega) Y ?_ | refine A2 2 sbT hG Y Y Y Y Y (by omega) Y ?_ | refine A1 2 sbT hG Y Y Y Y Y (by omega) Y ?_ | refine A2 3 sbT hG Y Y Y Y Y (by omega) Y ?_ | refine A1 3 sbT hG Y Y Y Y Y (by omega) Y ?_ | refine Ak (α := UInt16) 0 hG Y Y Y Y (by omega) Y ?_ | refine Ak (α := UInt16) 1 hG Y Y Y Y (by omega) Y ?_ | refine Ay hG Y Y Y ?_ | refine A8 0 hG Y Y Y Y ?_ | refine A8 1 hG Y Y Y Y ?_ | refine A8 2 hG Y Y Y Y ?_)
      | (show AOp _ _ ⟨_, .indexAddr _ _ _, _, _, _, _⟩ _ _ _; first | refine Bw (sz := 4) hG Y Y Y Y Y Y Y (by omega) ?_ | refine A4 hG Y Y Y Y Y Y Y (by omega) ?_ | refine Az hG Y Y Y Y Y Y Y (by omega) ?_ | refine Ax hG Y Y Y Y Y Y Y (by omega) ?_ | refine Bb hG Y Y ?_)
      | (show AOp _ _ ⟨_, .buildSlice _ _ _, _, _, _, _⟩ _ _ _; first | refine r_mk (sz := 1) hG Y Y Y Y Y Y Y ?_)
      | (show AOp _ _ ⟨_, .alloc _, _, _, _, _⟩ _ _ _; refine B9 hG Y Y (fun i => ?_))
      | (show AOp _ _ ⟨_, .store _ _ _, _, _, _, _⟩ _ _ _; fail)
      | (show AOp _ _ ⟨_, .call ⟨.builtin .append, _, _⟩, _, _, _, _⟩ _ _ _; first | refine Cd (sz := 1) (xs := []) hG Y Y Y Y Y Y Y ⟨_, Y⟩ Y Y Y Y Y Y Y (by first | omega | (simp; omega)) (fun k => ?_) | refine r_appm 0 hG Y Y Y Y Y Y Y ⟨_, Y⟩ Y Y Y Y Y (by first | omega | (simp only [List.length_append, List.length_cons, List.length_nil]; omega)) (fun k => ?_) | fail)
      | refine r_q hG Y Y Y ?_))
    | (show AL _ _ _ _ _ _ _ _; first | refine Bj Y Y Y ?_ | (refine Ar ?_; first | show AW _ _ _ _ _ _ | show ∃ x', _ < _ ∧ _)) | (show AW _ _ (.seq _ _) _ _ _; refine Ah ?_; intro Q1) | (show AW _ _ (.region _ _ false) _ _ _; refine Ad ?_; intro O1) | (show AW _ _ (.cond _ _ _) _ _ _; first | refine Ao Y ?_ | refine Ap Y ?_ | refine Bf Y (fun h => ?_) (fun h => ?_)) | (show AW _ _ (.skip) _ _ _; refine Aj ?_; first | show AW _ _ _ _ _ _ | show ∃ x', _ < _ ∧ _) | (show AW _ _ (.block _ _) _ _ _; refine Af ?_; intro Q1) | (show AW _ _ (.exit _) _ _ _; refine As ?_; first | show AW _ _ _ _ _ _ | show ∃ x', _ < _ ∧ _) | (show AW _ _ (.ret) _ _ _; refine Av ?_; try dsimp only [A3, Ac, A7, Ag]) | fail)
          refine Ae rfl ?_
          refine Bg 0 (u := sbT (l.getD q default)) hG rfl rfl rfl (hsc _) rfl rfl rfl ?_
          repeat' (first
    | ((show AL _ _ _ _ _ _ _ _; refine Ae Y ?_); (first
      | refine Aq hG Y Y ?_
      | refine A5 hG Y Y ?_
      | (show AOp _ _ ⟨_, .call ⟨.builtin .len, _, _⟩, _, _, _, _⟩ _ _ _; first | refine Br hG Y Y Y Y ?_ | refine Bx hG Y Y Y Y Y ?_)
      | (show AOp _ _ ⟨_, .binOp .add _ _ _ _, _, _, _, _⟩ _ _ _; first | refine Ab hG Y Y Y Y Y (by omega) ?_ | refine Ab (m := 1) hG Y Y Y Y Y (by omega) ?_ | refine Aa hG Y Y Y Y Y (by omega) ?_)
      | (show AOp _ _ ⟨_, .binOp _ _ _ _ _, _, _, _, _⟩ _ _ _; first | refine Au hG Y Y Y Y Y (by omega) ?_ | refine At hG Y Y Y Y Y (by omega) ?_ | (refine Am hG Y Y Y Y Y (fun h => ?_) (fun h => ?_)) | refine Bl hG Y Y Y ?_ | refine Bv hG Y Y Y Y ?_)
      | (show AOp _ _ ⟨_, .load _ _, _, _, _, _⟩ _ _ _; first | refine A2 0 sbT hG Y Y Y Y Y (by omega) Y ?_ | refine A1 0 sbT hG Y Y Y Y Y (by omega) Y ?_ | refine A2 1 sbT hG Y Y Y Y Y (by omega) Y ?_ | refine A1 1 sbT hG Y Y Y Y Y (by omega) Y ?_ | refine A2 2 sbT hG Y Y Y Y Y (by omega) Y ?_ | refine A1 2 sbT hG Y Y Y Y Y (by omega) Y ?_ | refine A2 3 sbT hG Y Y Y Y Y (by omega) Y ?_ | refine A1 3 sbT hG Y Y Y Y Y (by omega) Y ?_ | refine Ak (α := UInt16) 0 hG Y Y Y Y (by omega) Y ?_ | refine Ak (α := UInt16) 1 hG Y Y Y Y (by omega) Y ?_ | refine Ay hG Y Y Y ?_ | refine A8 0 hG Y Y Y Y ?_ | refine A8 1 hG Y Y Y Y ?_ | refine A8 2 hG Y Y Y Y ?_)
      | (show AOp _ _ ⟨_, .indexAddr _ _ _, _, _, _, _⟩ _ _ _; first | refine Bw (sz := 4) hG Y Y Y Y Y Y Y (by omega) ?_ | refine A4 hG Y Y Y Y Y Y Y (by omega) ?_ | refine Az hG Y Y Y Y Y Y Y (by omega) ?_ | refine Ax hG Y Y Y Y Y Y Y (by omega) ?_ | refine Bb hG Y Y ?_)
      | (show AOp _ _ ⟨_, .buildSlice _ _ _, _, _, _, _⟩ _ _ _; first | refine r_mk (sz := 1) hG Y Y Y Y Y Y Y ?_)
      | (show AOp _ _ ⟨_, .alloc _, _, _, _, _⟩ _ _ _; refine B9 hG Y Y (fun i => ?_))
      | (show AOp _ _ ⟨_, .store _ _ _, _, _, _, _⟩ _ _ _; first | refine A0 (α := UInt16) 0 hG Y Y Y hT_cells hT_sc Y Y (by first | omega | (simp only [Array.size_setIfInBounds]; omega)) ?_ | refine A0 (α := UInt16) 1 hG Y Y Y hT_cells hT_sc Y Y (by first | omega | (simp only [Array.size_setIfInBounds]; omega)) ?_ | refine Bg 0 hG Y Y Y Y Y Y Y ?_ | refine Bg 1 hG Y Y Y Y Y Y Y ?_ | refine Bg 2 hG Y Y Y Y Y Y Y ?_)
      | (show AOp _ _ ⟨_, .call ⟨.builtin .append, _, _⟩, _, _, _, _⟩ _ _ _; fail)
      | refine r_q hG Y Y Y ?_))
    | (show AL _ _ _ _ _ _ _ _; first | refine Bj Y Y Y ?_ | (refine Ar ?_; first | show AW _ _ _ _ _ _ | show ∃ x', _ < _ ∧ _)) | (show AW _ _ (.seq _ _) _ _ _; refine Ah ?_; intro Q1) | (show AW _ _ (.region _ _ false) _ _ _; refine Ad ?_; intro O1) | (show AW _ _ (.cond _ _ _) _ _ _; first | refine Ao Y ?_ | refine Ap Y ?_ | refine Bf Y (fun h => ?_) (fun h => ?_)) | (show AW _ _ (.skip) _ _ _; refine Aj ?_; first | show AW _ _ _ _ _ _ | show ∃ x', _ < _ ∧ _) | (show AW _ _ (.block _ _) _ _ _; refine Af ?_; intro Q1) | (show AW _ _ (.exit _) _ _ _; refine As ?_; first | show AW _ _ _ _ _ _ | show ∃ x', _ < _ ∧ _) | (show AW _ _ (.ret) _ _ _; refine Av ?_; try dsimp only [A3, Ac, A7, Ag]) | fail)
          rotate_left
          · exact absurd (ht.symm.trans h) (by decide)
          refine Ae rfl (aop_appL (n := 1) (objs := fun _ => none) (ys := [mT (l.getD q default).id]) hG rfl rfl rfl rfl rfl ⟨_, rfl⟩ rfl rfl ?_ rfl (fun i o h => by cases h) rfl rfl ?_ ?_ rfl (fun i' hi' => ?_))
          · simp [rowT_length]
          · intro q' hq; simp [flat, T.cells, mT] at hq; subst hq; rfl
          · simp only [List.length_cons, List.length_nil] at *; omega
          repeat' (first
    | ((show AL _ _ _ _ _ _ _ _; refine Ae Y ?_); (first
      | refine Aq hG Y Y ?_
      | refine A5 hG Y Y ?_
      | (show AOp _ _ ⟨_, .call ⟨.builtin .len, _, _⟩, _, _, _, _⟩ _ _ _; first | refine Br hG Y Y Y Y ?_ | refine Bx hG Y Y Y Y Y ?_)
      | (show AOp _ _ ⟨_, .binOp .add _ _ _ _, _, _, _, _⟩ _ _ _; first | refine Ab hG Y Y Y Y Y (by omega) ?_ | refine Ab (m := 1) hG Y Y Y Y Y (by omega) ?_ | refine Aa hG Y Y Y Y Y (by omega) ?_)
      | (show AOp _ _ ⟨_, .binOp _ _ _ _ _, _, _, _, _⟩ _ _ _; first | refine Au hG Y Y Y Y Y (by omega) ?_ | refine At hG Y Y Y Y Y (by omega) ?_ | (refine Am hG Y Y Y Y Y (fun h => ?_) (fun h => ?_)) | refine Bl hG Y Y Y ?_ | refine Bv hG Y Y Y Y ?_)
      | (show AOp _ _ ⟨_, .load _ _, _, _, _, _⟩ _ _ _; first | refine A2 0 sbT hG Y Y Y Y Y (by omega) Y ?_ | refine A1 0 sbT hG Y Y Y Y Y (by omega) Y ?_ | refine A2 1 sbT hG Y Y Y Y Y (by omega) Y ?_ | refine A1 1 sbT hG Y Y Y Y Y (by omega) Y ?_ | refine A2 2 sbT hG Y Y Y Y Y (by omega) Y ?_ | refine A1 2 sbT hG Y Y Y Y Y (by omega) Y ?_ | refine A2 3 sbT hG Y Y Y Y Y (by omega) Y ?_ | refine A1 3 sbT hG Y Y Y Y Y (by omega) Y ?_ | refine Ak (α := UInt16) 0 hG Y Y Y Y (by omega) Y ?_ | refine Ak (α := UInt16) 1 hG Y Y Y Y (by omega) Y ?_ | refine Ay hG Y Y Y ?_ | refine A8 0 hG Y Y Y Y ?_ | refine A8 1 hG Y Y Y Y ?_ | refine A8 2 hG Y Y Y Y ?_)
      | (show AOp _ _ ⟨_, .indexAddr _ _ _, _, _, _, _⟩ _ _ _; first | refine Bw (sz := 4) hG Y Y Y Y Y Y Y (by omega) ?_ | refine A4 hG Y Y Y Y Y Y Y (by omega) ?_ | refine Az hG Y Y Y Y Y Y Y (by omega) ?_ | refine Ax hG Y Y Y Y Y Y Y (by omega) ?_ | refine Bb hG Y Y ?_)
      | (show AOp _ _ ⟨_, .buildSlice _ _ _, _, _, _, _⟩ _ _ _; first | refine r_mk (sz := 1) hG Y Y Y Y Y Y Y ?_)
      | (show AOp _ _ ⟨_, .alloc _, _, _, _, _⟩ _ _ _; refine B9 hG Y Y (fun i => ?_))
      | (show AOp _ _ ⟨_, .store _ _ _, _, _, _, _⟩ _ _ _; first | refine A0 (α := UInt16) 0 hG Y Y Y hT_cells hT_sc Y Y (by first | omega | (simp only [Array.size_setIfInBounds]; omega)) ?_ | refine A0 (α := UInt16) 1 hG Y Y Y hT_cells hT_sc Y Y (by first | omega | (simp only [Array.size_setIfInBounds]; omega)) ?_ | refine Bg 0 hG Y Y Y Y Y Y Y ?_ | refine Bg 1 hG Y Y Y Y Y Y Y ?_ | refine Bg 2 hG Y Y Y Y Y Y Y ?_)
      | (show AOp _ _ ⟨_, .call ⟨.builtin .append, _, _⟩, _, _, _, _⟩ _ _ _; first | refine Cd (sz := 1) (xs := []) hG Y Y Y Y Y Y Y ⟨_, Y⟩ Y Y Y Y Y Y Y (by first | omega | (simp; omega)) (fun k => ?_) | refine r_appm 0 hG Y Y Y Y Y Y Y ⟨_, Y⟩ Y Y Y Y Y (by first | omega | (simp only [List.length_append, List.length_cons, List.length_nil]; omega)) (fun k => ?_) | fail)
      | refine r_q hG Y Y Y ?_))
    | (show AL _ _ _ _ _ _ _ _; first | refine Bj Y Y Y ?_ | (refine Ar ?_; first | show AW _ _ _ _ _ _ | show ∃ x', _ < _ ∧ _)) | (show AW _ _ (.seq _ _) _ _ _; refine Ah ?_; intro Q1) | (show AW _ _ (.region _ _ false) _ _ _; refine Ad ?_; intro O1) | (show AW _ _ (.cond _ _ _) _ _ _; first | refine Ao Y ?_ | refine Ap Y ?_ | refine Bf Y (fun h => ?_) (fun h => ?_)) | (show AW _ _ (.skip) _ _ _; refine Aj ?_; first | show AW _ _ _ _ _ _ | show ∃ x', _ < _ ∧ _) | (show AW _ _ (.block _ _) _ _ _; refine Af ?_; intro Q1) | (show AW _ _ (.exit _) _ _ _; refine As ?_; first | show AW _ _ _ _ _ _ | show ∃ x', _ < _ ∧ _) | (show AW _ _ (.ret) _ _ _; refine Av ?_; try dsimp only [A3, Ac, A7, Ag]) | fail)
          exact ⟨⟨q + 1, i', by omega⟩, by dsimp only; omega, .consW rfl (.eq (by dsimp only; rw [hks]; simp [bE])) (.cons rfl (.cons rfl (.cons rfl (.nil _)))), by
            dsimp only; rw [hks]
            refine Go.Ts.GStep.trans (σ1 := ⟨(i', .cells ((rowT mT (z :: g).toArray).drop 0 ++ flat [mT (l.getD q default).id])) :: [(p, .cells [bT v, .aref 4 ri 0 l.length none, .map (some m)]), (m, .map (at'.map kvT)), (ri, .cells (flat (l.map sbT)))], [], off, none⟩) (keep_step (R' := []) (.cons_cons _ (List.sublist_cons_self _ _)) (List.nil_sublist _)) ?_
            rw [rowN_snoc]; exact .refl _⟩
      | false =>
        rw [if_neg (by rw [ht]; exact Bool.false_ne_true), List.append_nil] at hks
        cases g with
        | nil =>
          repeat' (first
    | ((show AL _ _ _ _ _ _ _ _; refine Ae Y ?_); (first
      | refine Aq hG Y Y ?_
      | refine A5 hG Y Y ?_
      | (show AOp _ _ ⟨_, .call ⟨.builtin .len, _, _⟩, _, _, _, _⟩ _ _ _; first | refine Br hG Y Y Y Y ?_ | refine Bx hG Y Y Y Y Y ?_)
      | (show AOp _ _ ⟨_, .binOp .add _ _ _ _, _, _, _, _⟩ _ _ _; first | refine Ab hG Y Y Y Y Y (by omega) ?_ | refine Ab (m := 1) hG Y Y Y Y Y (by omega) ?_ | refine Aa hG Y Y Y Y Y (by omega) ?_)
      | (show AOp _ _ ⟨_, .binOp _ _ _ _ _, _, _, _, _⟩ _ _ _; first | refine Au hG Y Y Y Y Y (by omega) ?_ | refine At hG Y Y Y Y Y (by omega) ?_ | (refine Am hG Y Y Y Y Y (fun h => ?_) (fun h => ?_)) | refine Bl hG Y Y Y ?_ | refine Bv hG Y Y Y Y ?_)
      | (show AOp _ _ ⟨_, .load _ _, _, _, _, _⟩ _ _ _; first | refine A2 0 sbT hG Y Y Y Y Y (by omega) Y ?_ | refine A1 0 sbT hG Y Y Y Y Y (by omega) Y ?_ | refine A2 1 sbT hG Y Y Y Y Y (by omega) Y ?_ | refine A1 1 sbT hG Y Y Y Y Y (by omega) Y ?_ | refine A2 2 sbT hG Y Y Y Y Y (by omega) Y ?_ | refine A1 2 sbT hG Y Y Y Y Y (by omega) Y ?_ | refine A2 3 sbT hG Y Y Y Y Y (by omega) Y ?_ | refine A1 3 sbT hG Y Y Y Y Y (by omega) Y ?_ | refine Ak (α := UInt16) 0 hG Y Y Y Y (by omega) Y ?_ | refine Ak (α := UInt16) 1 hG Y Y Y Y (by omega) Y ?_ | refine Ay hG Y Y Y ?_ | refine A8 0 hG Y Y Y Y ?_ | refine A8 1 hG Y Y Y Y ?_ | refine A8 2 hG Y Y Y Y ?_)
      | (show AOp _ _ ⟨_, .indexAddr _ _ _, _, _, _, _⟩ _ _ _; first | refine Bw (sz := 4) hG Y Y Y Y Y Y Y (by omega) ?_ | refine A4 hG Y Y Y Y Y Y Y (by omega) ?_ | refine Az hG Y Y Y Y Y Y Y (by omega) ?_ | refine Ax hG Y Y Y Y Y Y Y (by omega) ?_ | refine Bb hG Y Y ?_)
      | (show AOp _ _ ⟨_, .buildSlice _ _ _, _, _, _, _⟩ _ _ _; first | refine r_mk (sz := 1) hG Y Y Y Y Y Y Y ?_)
      | (show AOp _ _ ⟨_, .alloc _, _, _, _, _⟩ _ _ _; refine B9 hG Y Y (fun i => ?_))
      | (show AOp _ _ ⟨_, .store _ _ _, _, _, _, _⟩ _ _ _; fail)
      | (show AOp _ _ ⟨_, .call ⟨.builtin .append, _, _⟩, _, _, _, _⟩ _ _ _; first | refine Cd (sz := 1) (xs := []) hG Y Y Y Y Y Y Y ⟨_, Y⟩ Y Y Y Y Y Y Y (by first | omega | (simp; omega)) (fun k => ?_) | refine r_appm 0 hG Y Y Y Y Y Y Y ⟨_, Y⟩ Y Y Y Y Y (by first | omega | (simp only [List.length_append, List.length_cons, List.length_nil]; omega)) (fun k => ?_) | fail)
      | refine r_q hG Y Y Y ?_))
    | (show AL _ _ _ _ _ _ _ _; first | refine Bj Y Y Y ?_ | (refine Ar ?_; first | show AW _ _ _ _ _ _ | show ∃ x', _ < _ ∧ _)) | (show AW _ _ (.seq _ _) _ _ _; refine Ah ?_; intro Q1) | (show AW _ _ (.region _ _ false) _ _ _; refine Ad ?_; intro O1) | (show AW _ _ (.cond _ _ _) _ _ _; first | refine Ao Y ?_ | refine Ap Y ?_ | refine Bf Y (fun h => ?_) (fun h => ?_)) | (show AW _ _ (.skip) _ _ _; refine Aj ?_; first | show AW _ _ _ _ _ _ | show ∃ x', _ < _ ∧ _) | (show AW _ _ (.block _ _) _ _ _; refine Af ?_; intro Q1) | (show AW _ _ (.exit _) _ _ _; refine As ?_; first | show AW _ _ _ _ _ _ | show ∃ x', _ < _ ∧ _) | (show AW _ _ (.ret) _ _ _; refine Av ?_; try dsimp only [A3, Ac, A7, Ag]) | fail)
          refine Ae rfl ?_
          refine Bg 0 (u := sbT (l.getD q default)) hG rfl rfl rfl (hsc _) rfl rfl rfl ?_
          repeat' (first
    | ((show AL _ _ _ _ _ _ _ _; refine Ae Y ?_); (first
      | refine Aq hG Y Y ?_
      | refine A5 hG Y Y ?_
      | (show AOp _ _ ⟨_, .call ⟨.builtin .len, _, _⟩, _, _, _, _⟩ _ _ _; first | refine Br hG Y Y Y Y ?_ | refine Bx hG Y Y Y Y Y ?_)
      | (show AOp _ _ ⟨_, .binOp .add _ _ _ _, _, _, _, _⟩ _ _ _; first | refine Ab hG Y Y Y Y Y (by omega) ?_ | refine Ab (m := 1) hG Y Y Y Y Y (by omega) ?_ | refine Aa hG Y Y Y Y Y (by omega) ?_)
      | (show AOp _ _ ⟨_, .binOp _ _ _ _ _, _, _, _, _⟩ _ _ _; first | refine Au hG Y Y Y Y Y (by omega) ?_ | refine At hG Y Y Y Y Y (by omega) ?_ | (refine Am hG Y Y Y Y Y (fun h => ?_) (fun h => ?_)) | refine Bl hG Y Y Y ?_ | refine Bv hG Y Y Y Y ?_)
      | (show AOp _ _ ⟨_, .load _ _, _, _, _, _⟩ _ _ _; first | refine A2 0 sbT hG Y Y Y Y Y (by omega) Y ?_ | refine A1 0 sbT hG Y Y Y Y Y (by omega) Y ?_ | refine A2 1 sbT hG Y Y Y Y Y (by omega) Y ?_ | refine A1 1 sbT hG Y Y Y Y Y (by omega) Y ?_ | refine A2 2 sbT hG Y Y Y Y Y (by omega) Y ?_ | refine A1 2 sbT hG Y Y Y Y Y (by omega) Y ?_ | refine A2 3 sbT hG Y Y Y Y Y (by omega) Y ?_ | refine A1 3 sbT hG Y Y Y Y Y (by omega) Y ?_ | refine Ak (α := UInt16) 0 hG Y Y Y Y (by omega) Y ?_ | refine Ak (α := UInt16) 1 hG Y Y Y Y (by omega) Y ?_ | refine Ay hG Y Y Y ?_ | refine A8 0 hG Y Y Y Y ?_ | refine A8 1 hG Y Y Y Y ?_ | refine A8 2 hG Y Y Y Y ?_)
      | (show AOp _ _ ⟨_, .indexAddr _ _ _, _, _, _, _⟩ _ _ _; first | refine Bw (sz := 4) hG Y Y Y Y Y Y Y (by omega) ?_ | refine A4 hG Y Y Y Y Y Y Y (by omega) ?_ | refine Az hG Y Y Y Y Y Y Y (by omega) ?_ | refine Ax hG Y Y Y Y Y Y Y (by omega) ?_ | refine Bb hG Y Y ?_)
      | (show AOp _ _ ⟨_, .buildSlice _ _ _, _, _, _, _⟩ _ _ _; first | refine r_mk (sz := 1) hG Y Y Y Y Y Y Y ?_)
      | (show AOp _ _ ⟨_, .alloc _, _, _, _, _⟩ _ _ _; refine B9 hG Y Y (fun i => ?_))
      | (show AOp _ _ ⟨_, .store _ _ _, _, _, _, _⟩ _ _ _; first | refine A0 (α := UInt16) 0 hG Y Y Y hT_cells hT_sc Y Y (by first | omega | (simp only [Array.size_setIfInBounds]; omega)) ?_ | refine A0 (α := UInt16) 1 hG Y Y Y hT_cells hT_sc Y Y (by first | omega | (simp only [Array.size_setIfInBounds]; omega)) ?_ | refine Bg 0 hG Y Y Y Y Y Y Y ?_ | refine Bg 1 hG Y Y Y Y Y Y Y ?_ | refine Bg 2 hG Y Y Y Y Y Y Y ?_)
      | (show AOp _ _ ⟨_, .call ⟨.builtin .append, _, _⟩, _, _, _, _⟩ _ _ _; first | refine Cd (sz := 1) (xs := []) hG Y Y Y Y Y Y Y ⟨_, Y⟩ Y Y Y Y Y Y Y (by first | omega | (simp; omega)) (fun k => ?_) | refine r_appm 0 hG Y Y Y Y Y Y Y ⟨_, Y⟩ Y Y Y Y Y (by first | omega | (simp only [List.length_append, List.length_cons, List.length_nil]; omega)) (fun k => ?_) | fail)
      | refine r_q hG Y Y Y ?_))
    | (show AL _ _ _ _ _ _ _ _; first | refine Bj Y Y Y ?_ | (refine Ar ?_; first | show AW _ _ _ _ _ _ | show ∃ x', _ < _ ∧ _)) | (show AW _ _ (.seq _ _) _ _ _; refine Ah ?_; intro Q1) | (show AW _ _ (.region _ _ false) _ _ _; refine Ad ?_; intro O1) | (show AW _ _ (.cond _ _ _) _ _ _; first | refine Ao Y ?_ | refine Ap Y ?_ | refine Bf Y (fun h => ?_) (fun h => ?_)) | (show AW _ _ (.skip) _ _ _; refine Aj ?_; first | show AW _ _ _ _ _ _ | show ∃ x', _ < _ ∧ _) | (show AW _ _ (.block _ _) _ _ _; refine Af ?_; intro Q1) | (show AW _ _ (.exit _) _ _ _; refine As ?_; first | show AW _ _ _ _ _ _ | show ∃ x', _ < _ ∧ _) | (show AW _ _ (.ret) _ _ _; refine Av ?_; try dsimp only [A3, Ac, A7, Ag]) | fail)
          · exact absurd (ht.symm.trans h) (by decide)
          exact ⟨⟨q + 1, y, by omega⟩, by dsimp only; omega, .consW rfl (.eq (by dsimp only; rw [hks])) (.cons rfl (.cons rfl (.cons rfl (.nil _)))), by
            dsimp only; rw [hks]
            exact keep_step (R' := []) (List.sublist_cons_self _ _) (List.nil_sublist _)⟩
        | cons z g =>
          repeat' (first
    | ((show AL _ _ _ _ _ _ _ _; refine Ae Y ?_); (first
      | refine Aq hG Y Y ?_
      | refine A5 hG Y Y ?_
      | (show AOp _ _ ⟨_, .call ⟨.builtin .len, _, _⟩, _, _, _, _⟩ _ _ _; first | refine Br hG Y Y Y Y ?_ | refine Bx hG Y Y Y Y Y ?_)
      | (show AOp _ _ ⟨_, .binOp .add _ _ _ _, _, _, _, _⟩ _ _ _; first | refine Ab hG Y Y Y Y Y (by omega) ?_ | refine Ab (m := 1) hG Y Y Y Y Y (by omega) ?_ | refine Aa hG Y Y Y Y Y (by omega) ?_)
      | (show AOp _ _ ⟨_, .binOp _ _ _ _ _, _, _, _, _⟩ _ _ _; first | refine Au hG Y Y Y Y Y (by omega) ?_ | refine At hG Y Y Y Y Y (by omega) ?_ | (refine Am hG Y Y Y Y Y (fun h => ?_) (fun h => ?_)) | refine Bl hG Y Y Y ?_ | refine Bv hG Y Y Y Y ?_)
      | (show AOp _ _ ⟨_, .load _ _, _, _, _, _⟩ _ _ _; first | refine A2 0 sbT hG Y Y Y Y Y (by omega) Y ?_ | refine A1 0 sbT hG Y Y Y Y Y (by omega) Y ?_ | refine A2 1 sbT hG Y Y Y Y Y (by omega) Y ?_ | refine A1 1 sbT hG Y Y Y Y Y (by omega) Y ?_ | refine A2 2 sbT hG Y Y Y Y Y (by omega) Y ?_ | refine A1 2 sbT hG Y Y Y Y Y (by omega) Y ?_ | refine A2 3 sbT hG Y Y Y Y Y (by omega) Y ?_ | refine A1 3 sbT hG Y Y Y Y Y (by omega) Y ?_ | refine Ak (α := UInt16) 0 hG Y Y Y Y (by omega) Y ?_ | refine Ak (α := UInt16) 1 hG Y Y Y Y (by omega) Y ?_ | refine Ay hG Y Y Y ?_ | refine A8 0 hG Y Y Y Y ?_ | refine A8 1 hG Y Y Y Y ?_ | refine A8 2 hG Y Y Y Y ?_)
      | (show AOp _ _ ⟨_, .indexAddr _ _ _, _, _, _, _⟩ _ _ _; first | refine Bw (sz := 4) hG Y Y Y Y Y Y Y (by omega) ?_ | refine A4 hG Y Y Y Y Y Y Y (by omega) ?_ | refine Az hG Y Y Y Y Y Y Y (by omega) ?_ | refine Ax hG Y Y Y Y Y Y Y (by omega) ?_ | refine Bb hG Y Y ?_)
      | (show AOp _ _ ⟨_, .buildSlice _ _ _, _, _, _, _⟩ _ _ _; first | refine r_mk (sz := 1) hG Y Y Y Y Y Y Y ?_)
      | (show AOp _ _ ⟨_, .alloc _, _, _, _, _⟩ _ _ _; refine B9 hG Y Y (fun i => ?_))
      | (show AOp _ _ ⟨_, .store _ _ _, _, _, _, _⟩ _ _ _; fail)
      | (show AOp _ _ ⟨_, .call ⟨.builtin .append, _, _⟩, _, _, _, _⟩ _ _ _; first | refine Cd (sz := 1) (xs := []) hG Y Y Y Y Y Y Y ⟨_, Y⟩ Y Y Y Y Y Y Y (by first | omega | (simp; omega)) (fun k => ?_) | refine r_appm 0 hG Y Y Y Y Y Y Y ⟨_, Y⟩ Y Y Y Y Y (by first | omega | (simp only [List.length_append, List.length_cons, List.length_nil]; omega)) (fun k => ?_) | fail)
      | refine r_q hG Y Y Y ?_))
    | (show AL _ _ _ _ _ _ _ _; first | refine Bj Y Y Y ?_ | (refine Ar ?_; first | show AW _ _ _ _ _ _ | show ∃ x', _ < _ ∧ _)) | (show AW _ _ (.seq _ _) _ _ _; refine Ah ?_; intro Q1) | (show AW _ _ (.region _ _ false) _ _ _; refine Ad ?_; intro O1) | (show AW _ _ (.cond _ _ _) _ _ _; first | refine Ao Y ?_ | refine Ap Y ?_ | refine Bf Y (fun h => ?_) (fun h => ?_)) | (show AW _ _ (.skip) _ _ _; refine Aj ?_; first | show AW _ _ _ _ _ _ | show ∃ x', _ < _ ∧ _) | (show AW _ _ (.block _ _) _ _ _; refine Af ?_; intro Q1) | (show AW _ _ (.exit _) _ _ _; refine As ?_; first | show AW _ _ _ _ _ _ | show ∃ x', _ < _ ∧ _) | (show AW _ _ (.ret) _ _ _; refine Av ?_; try dsimp only [A3, Ac, A7, Ag]) | fail)
          refine Ae rfl ?_
          refine Bg 0 (u := sbT (l.getD q default)) hG rfl rfl rfl (hsc _) rfl rfl rfl ?_
          repeat' (first
    | ((show AL _ _ _ _ _ _ _ _; refine Ae Y ?_); (first
      | refine Aq hG Y Y ?_
      | refine A5 hG Y Y ?_
      | (show AOp _ _ ⟨_, .call ⟨.builtin .len, _, _⟩, _, _, _, _⟩ _ _ _; first | refine Br hG Y Y Y Y ?_ | refine Bx hG Y Y Y Y Y ?_)
      | (show AOp _ _ ⟨_, .binOp .add _ _ _ _, _, _, _, _⟩ _ _ _; first | refine Ab hG Y Y Y Y Y (by omega) ?_ | refine Ab (m := 1) hG Y Y Y Y Y (by omega) ?_ | refine Aa hG Y Y Y Y Y (by omega) ?_)
      | (show AOp _ _ ⟨_, .binOp _ _ _ _ _, _, _, _, _⟩ _ _ _; first | refine Au hG Y Y Y Y Y (by omega) ?_ | refine At hG Y Y Y Y Y (by omega) ?_ | (refine Am hG Y Y Y Y Y (fun h => ?_) (fun h => ?_)) | refine Bl hG Y Y Y ?_ | refine Bv hG Y Y Y Y ?_)
      | (show AOp _ _ ⟨_, .load _ _, _, _, _, _⟩ _ _ _; first | refine A2 0 sbT hG Y Y Y Y Y (by omega) Y ?_ | refine A1 0 sbT hG Y Y Y Y Y (by omega) Y ?_ | refine A2 1 sbT hG Y Y Y Y Y (by omega) Y ?_ | refine A1 1 sbT hG Y Y Y Y Y (by omega) Y ?_ | refine A2 2 sbT hG Y Y Y Y Y (by omega) Y ?_ | refine A1 2 sbT hG Y Y Y Y Y (by omega) Y ?_ | refine A2 3 sbT hG Y Y Y Y Y (by omega) Y ?_ | refine A1 3 sbT hG Y Y Y Y Y (by omega) Y ?_ | refine Ak (α := UInt16) 0 hG Y Y Y Y (by omega) Y ?_ | refine Ak (α := UInt16) 1 hG Y Y Y Y (by omega) Y ?_ | refine Ay hG Y Y Y ?_ | refine A8 0 hG Y Y Y Y ?_ | refine A8 1 hG Y Y Y Y ?_ | refine A8 2 hG Y Y Y Y ?_)
      | (show AOp _ _ ⟨_, .indexAddr _ _ _, _, _, _, _⟩ _ _ _; first | refine Bw (sz := 4) hG Y Y Y Y Y Y Y (by omega) ?_ | refine A4 hG Y Y Y Y Y Y Y (by omega) ?_ | refine Az hG Y Y Y Y Y Y Y (by omega) ?_ | refine Ax hG Y Y Y Y Y Y Y (by omega) ?_ | refine Bb hG Y Y ?_)
      | (show AOp _ _ ⟨_, .buildSlice _ _ _, _, _, _, _⟩ _ _ _; first | refine r_mk (sz := 1) hG Y Y Y Y Y Y Y ?_)
      | (show AOp _ _ ⟨_, .alloc _, _, _, _, _⟩ _ _ _; refine B9 hG Y Y (fun i => ?_))
      | (show AOp _ _ ⟨_, .store _ _ _, _, _, _, _⟩ _ _ _; first | refine A0 (α := UInt16) 0 hG Y Y Y hT_cells hT_sc Y Y (by first | omega | (simp only [Array.size_setIfInBounds]; omega)) ?_ | refine A0 (α := UInt16) 1 hG Y Y Y hT_cells hT_sc Y Y (by first | omega | (simp only [Array.size_setIfInBounds]; omega)) ?_ | refine Bg 0 hG Y Y Y Y Y Y Y ?_ | refine Bg 1 hG Y Y Y Y Y Y Y ?_ | refine Bg 2 hG Y Y Y Y Y Y Y ?_)
      | (show AOp _ _ ⟨_, .call ⟨.builtin .append, _, _⟩, _, _, _, _⟩ _ _ _; first | refine Cd (sz := 1) (xs := []) hG Y Y Y Y Y Y Y ⟨_, Y⟩ Y Y Y Y Y Y Y (by first | omega | (simp; omega)) (fun k => ?_) | refine r_appm 0 hG Y Y Y Y Y Y Y ⟨_, Y⟩ Y Y Y Y Y (by first | omega | (simp only [List.length_append, List.length_cons, List.length_nil]; omega)) (fun k => ?_) | fail)
      | refine r_q hG Y Y Y ?_))
    | (show AL _ _ _ _ _ _ _ _; first | refine Bj Y Y Y ?_ | (refine Ar ?_; first | show AW _ _ _ _ _ _ | show ∃ x', _ < _ ∧ _)) | (show AW _ _ (.seq _ _) _ _ _; refine Ah ?_; intro Q1) | (show AW _ _ (.region _ _ false) _ _ _; refine Ad ?_; intro O1) | (show AW _ _ (.cond _ _ _) _ _ _; first | refine Ao Y ?_ | refine Ap Y ?_ | refine Bf Y (fun h => ?_) (fun h => ?_)) | (show AW _ _ (.skip) _ _ _; refine Aj ?_; first | show AW _ _ _ _ _ _ | show ∃ x', _ < _ ∧ _) | (show AW _ _ (.block _ _) _ _ _; refine Af ?_; intro Q1) | (show AW _ _ (.exit _) _ _ _; refine As ?_; first | show AW _ _ _ _ _ _ | show ∃ x', _ < _ ∧ _) | (show AW _ _ (.ret) _ _ _; refine Av ?_; try dsimp only [A3, Ac, A7, Ag]) | fail)
          · exact absurd (ht.symm.trans h) (by decide)
          exact ⟨⟨q + 1, y, by omega⟩, by dsimp only; omega, .consW rfl (.eq (by dsimp only; rw [hks])) (.cons rfl (.cons rfl (.cons rfl (.nil _)))), by
            dsimp only; rw [hks]
            exact keep_step (R' := []) (List.sublist_cons_self _ _) (List.nil_sublist _)⟩
    · have hqe : l.take q = l := List.take_of_length_le (by omega)
      rw [hqe] at hgl ⊢
      obtain ⟨g, hg⟩ : ∃ g, namesOf l = g := ⟨_, rfl⟩
      have hR : idsA l = srtL g := by unfold idsA; rw [hg]
      rw [hg] at hgl ⊢
      have hgl2 := srtL_len g
      cases g with
      | nil =>
        have hs0 := sort0
        repeat' (first
    | ((show AL _ _ _ _ _ _ _ _; refine Ae Y ?_); (first
      | refine Aq hG Y Y ?_
      | refine A5 hG Y Y ?_
      | (show AOp _ _ ⟨_, .call ⟨.builtin .len, _, _⟩, _, _, _, _⟩ _ _ _; first | refine Br hG Y Y Y Y ?_ | refine Bx hG Y Y Y Y Y ?_)
      | (show AOp _ _ ⟨_, .binOp .add _ _ _ _, _, _, _, _⟩ _ _ _; first | refine Ab hG Y Y Y Y Y (by omega) ?_ | refine Ab (m := 1) hG Y Y Y Y Y (by omega) ?_ | refine Aa hG Y Y Y Y Y (by omega) ?_)
      | (show AOp _ _ ⟨_, .binOp _ _ _ _ _, _, _, _, _⟩ _ _ _; first | refine Au hG Y Y Y Y Y (by omega) ?_ | refine At hG Y Y Y Y Y (by omega) ?_ | (refine Am hG Y Y Y Y Y (fun h => ?_) (fun h => ?_)) | refine Bl hG Y Y Y ?_ | refine Bv hG Y Y Y Y ?_)
      | (show AOp _ _ ⟨_, .load _ _, _, _, _, _⟩ _ _ _; first | refine A2 0 sbT hG Y Y Y Y Y (by omega) Y ?_ | refine A1 0 sbT hG Y Y Y Y Y (by omega) Y ?_ | refine A2 1 sbT hG Y Y Y Y Y (by omega) Y ?_ | refine A1 1 sbT hG Y Y Y Y Y (by omega) Y ?_ | refine A2 2 sbT hG Y Y Y Y Y (by omega) Y ?_ | refine A1 2 sbT hG Y Y Y Y Y (by omega) Y ?_ | refine A2 3 sbT hG Y Y Y Y Y (by omega) Y ?_ | refine A1 3 sbT hG Y Y Y Y Y (by omega) Y ?_ | refine Ak (α := UInt16) 0 hG Y Y Y Y (by omega) Y ?_ | refine Ak (α := UInt16) 1 hG Y Y Y Y (by omega) Y ?_ | refine Ay hG Y Y Y ?_ | refine A8 0 hG Y Y Y Y ?_ | refine A8 1 hG Y Y Y Y ?_ | refine A8 2 hG Y Y Y Y ?_)
      | (show AOp _ _ ⟨_, .indexAddr _ _ _, _, _, _, _⟩ _ _ _; first | refine Bw (sz := 4) hG Y Y Y Y Y Y Y (by omega) ?_ | refine A4 hG Y Y Y Y Y Y Y (by omega) ?_ | refine Az hG Y Y Y Y Y Y Y (by omega) ?_ | refine Ax hG Y Y Y Y Y Y Y (by omega) ?_ | refine Bb hG Y Y ?_)
      | (show AOp _ _ ⟨_, .buildSlice _ _ _, _, _, _, _⟩ _ _ _; first | refine r_mk (sz := 1) hG Y Y Y Y Y Y Y ?_)
      | (show AOp _ _ ⟨_, .alloc _, _, _, _, _⟩ _ _ _; refine B9 hG Y Y (fun i => ?_))
      | (show AOp _ _ ⟨_, .store _ _ _, _, _, _, _⟩ _ _ _; first | refine A0 (α := UInt16) 0 hG Y Y Y hT_cells hT_sc Y Y (by first | omega | (simp only [Array.size_setIfInBounds]; omega)) ?_ | refine A0 (α := UInt16) 1 hG Y Y Y hT_cells hT_sc Y Y (by first | omega | (simp only [Array.size_setIfInBounds]; omega)) ?_ | refine Bg 0 hG Y Y Y Y Y Y Y ?_ | refine Bg 1 hG Y Y Y Y Y Y Y ?_ | refine Bg 2 hG Y Y Y Y Y Y Y ?_)
      | (show AOp _ _ ⟨_, .call ⟨.builtin .append, _, _⟩, _, _, _, _⟩ _ _ _; first | refine Cd (sz := 1) (xs := []) hG Y Y Y Y Y Y Y ⟨_, Y⟩ Y Y Y Y Y Y Y (by first | omega | (simp; omega)) (fun k => ?_) | refine r_appm 0 hG Y Y Y Y Y Y Y ⟨_, Y⟩ Y Y Y Y Y (by first | omega | (simp only [List.length_append, List.length_cons, List.length_nil]; omega)) (fun k => ?_) | fail)
      | (show AOp _ _ ⟨_, .call ⟨.value _, _, _⟩, _, _, _, _⟩ _ _ _; first | refine B0 Y Y Y Y Y (by first | (apply hs0 <;> (first | assumption | omega | exact Ba _ _ | exact Bi _ | exact Bk _ _ | exact Bs _ | rfl | (simp; omega))) | fail) ?_ | fail)
      | refine r_q hG Y Y Y ?_))
    | (show AL _ _ _ _ _ _ _ _; first | refine Bj Y Y Y ?_ | (refine Ar ?_; first | show AW _ _ _ _ _ _ | show ∃ x', _ < _ ∧ _)) | (show AW _ _ (.seq _ _) _ _ _; refine Ah ?_; intro Q1) | (show AW _ _ (.region _ _ false) _ _ _; refine Ad ?_; intro O1) | (show AW _ _ (.cond _ _ _) _ _ _; first | refine Ao Y ?_ | refine Ap Y ?_ | refine Bf Y (fun h => ?_) (fun h => ?_)) | (show AW _ _ (.skip) _ _ _; refine Aj ?_; first | show AW _ _ _ _ _ _ | show ∃ x', _ < _ ∧ _) | (show AW _ _ (.block _ _) _ _ _; refine Af ?_; intro Q1) | (show AW _ _ (.exit _) _ _ _; refine As ?_; first | show AW _ _ _ _ _ _ | show ∃ x', _ < _ ∧ _) | (show AW _ _ (.ret) _ _ _; refine Av ?_; try dsimp only [A3, Ac, A7, Ag]) | fail)
        refine ret_onL (Bq rfl Bo) (.refl _) (.refl _) (.nil 1) rfl ⟨?_, rfl⟩
        rw [hR, List.length_eq_zero_iff.1 hgl2]; rfl
      | cons z g =>
        have hs1 := srt_sort (d0 := (z :: g).toArray) (by simp at hgl ⊢; omega)
        have hsz : (z :: g).toArray.size = (z :: g).length := rfl
        repeat' (first
    | ((show AL _ _ _ _ _ _ _ _; refine Ae Y ?_); (first
      | refine Aq hG Y Y ?_
      | refine A5 hG Y Y ?_
      | (show AOp _ _ ⟨_, .call ⟨.builtin .len, _, _⟩, _, _, _, _⟩ _ _ _; first | refine Br hG Y Y Y Y ?_ | refine Bx hG Y Y Y Y Y ?_)
      | (show AOp _ _ ⟨_, .binOp .add _ _ _ _, _, _, _, _⟩ _ _ _; first | refine Ab hG Y Y Y Y Y (by omega) ?_ | refine Ab (m := 1) hG Y Y Y Y Y (by omega) ?_ | refine Aa hG Y Y Y Y Y (by omega) ?_)
      | (show AOp _ _ ⟨_, .binOp _ _ _ _ _, _, _, _, _⟩ _ _ _; first | refine Au hG Y Y Y Y Y (by omega) ?_ | refine At hG Y Y Y Y Y (by omega) ?_ | (refine Am hG Y Y Y Y Y (fun h => ?_) (fun h => ?_)) | refine Bl hG Y Y Y ?_ | refine Bv hG Y Y Y Y ?_)
      | (show AOp _ _ ⟨_, .load _ _, _, _, _, _⟩ _ _ _; first | refine A2 0 sbT hG Y Y Y Y Y (by omega) Y ?_ | refine A1 0 sbT hG Y Y Y Y Y (by omega) Y ?_ | refine A2 1 sbT hG Y Y Y Y Y (by omega) Y ?_ | refine A1 1 sbT hG Y Y Y Y Y (by omega) Y ?_ | refine A2 2 sbT hG Y Y Y Y Y (by omega) Y ?_ | refine A1 2 sbT hG Y Y Y Y Y (by omega) Y ?_ | refine A2 3 sbT hG Y Y Y Y Y (by omega) Y ?_ | refine A1 3 sbT hG Y Y Y Y Y (by omega) Y ?_ | refine Ak (α := UInt16) 0 hG Y Y Y Y (by omega) Y ?_ | refine Ak (α := UInt16) 1 hG Y Y Y Y (by omega) Y ?_ | refine Ay hG Y Y Y ?_ | refine A8 0 hG Y Y Y Y ?_ | refine A8 1 hG Y Y Y Y ?_ | refine A8 2 hG Y Y Y Y ?_)
      | (show AOp _ _ ⟨_, .indexAddr _ _ _, _, _, _, _⟩ _ _ _; first | refine Bw (sz := 4) hG Y Y Y Y Y Y Y (by omega) ?_ | refine A4 hG Y Y Y Y Y Y Y (by omega) ?_ | refine Az hG Y Y Y Y Y Y Y (by omega) ?_ | refine Ax hG Y Y Y Y Y Y Y (by omega) ?_ | refine Bb hG Y Y ?_)
      | (show AOp _ _ ⟨_, .buildSlice _ _ _, _, _, _, _⟩ _ _ _; first | refine r_mk (sz := 1) hG Y Y Y Y Y Y Y ?_)
      | (show AOp _ _ ⟨_, .alloc _, _, _, _, _⟩ _ _ _; refine B9 hG Y Y (fun i => ?_))
      | (show AOp _ _ ⟨_, .store _ _ _, _, _, _, _⟩ _ _ _; first | refine A0 (α := UInt16) 0 hG Y Y Y hT_cells hT_sc Y Y (by first | omega | (simp only [Array.size_setIfInBounds]; omega)) ?_ | refine A0 (α := UInt16) 1 hG Y Y Y hT_cells hT_sc Y Y (by first | omega | (simp only [Array.size_setIfInBounds]; omega)) ?_ | refine Bg 0 hG Y Y Y Y Y Y Y ?_ | refine Bg 1 hG Y Y Y Y Y Y Y ?_ | refine Bg 2 hG Y Y Y Y Y Y Y ?_)
      | (show AOp _ _ ⟨_, .call ⟨.builtin .append, _, _⟩, _, _, _, _⟩ _ _ _; first | refine Cd (sz := 1) (xs := []) hG Y Y Y Y Y Y Y ⟨_, Y⟩ Y Y Y Y Y Y Y (by first | omega | (simp; omega)) (fun k => ?_) | refine r_appm 0 hG Y Y Y Y Y Y Y ⟨_, Y⟩ Y Y Y Y Y (by first | omega | (simp only [List.length_append, List.length_cons, List.length_nil]; omega)) (fun k => ?_) | fail)
      | (show AOp _ _ ⟨_, .call ⟨.value _, _, _⟩, _, _, _, _⟩ _ _ _; first | refine r_row Y Y Y Y Y (List.Perm.refl _) hs1 (by assumption) ?_ | fail)
      | refine r_q hG Y Y Y ?_))
    | (show AL _ _ _ _ _ _ _ _; first | refine Bj Y Y Y ?_ | (refine Ar ?_; first | show AW _ _ _ _ _ _ | show ∃ x', _ < _ ∧ _)) | (show AW _ _ (.seq _ _) _ _ _; refine Ah ?_; intro Q1) | (show AW _ _ (.region _ _ false) _ _ _; (fail_if_success show AW _ _ (.region 11 _ _) _ _ _); refine Ad ?_; intro O1) | (show AW _ _ (.cond _ _ _) _ _ _; first | refine Ao Y ?_ | refine Ap Y ?_ | refine Bf Y (fun h => ?_) (fun h => ?_)) | (show AW _ _ (.skip) _ _ _; refine Aj ?_; first | show AW _ _ _ _ _ _ | show ∃ x', _ < _ ∧ _) | (show AW _ _ (.block _ _) _ _ _; refine Af ?_; intro Q1) | (show AW _ _ (.exit _) _ _ _; refine As ?_; first | show AW _ _ _ _ _ _ | show ∃ x', _ < _ ∧ _) | (show AW _ _ (.ret) _ _ _; refine Av ?_; try dsimp only [A3, Ac, A7, Ag]) | fail)
        have es : rowT mT (Go.Sort.sort ltQ (z :: g).toArray) = (srtL (z :: g)).map mT := by
          unfold srtL rowT; induction (Go.Sort.sort ltQ (z :: g).toArray).toList with
          | nil => rfl
          | cons a l ih => simpa [flat, Ai] using ih
        rw [es]
        have hln : ((srtL (z :: g)).map mT).length = g.length + 1 := by rw [List.length_map, hgl2]; rfl
        refine aw_freeze 0 3 rfl rfl ?_ ?_ ?_
        · rw [hln]; simp
        · refine List.all_eq_true.2 fun c hc => ?_
          obtain ⟨x, _, rfl⟩ := List.mem_map.1 (List.mem_of_mem_drop (List.mem_of_mem_take hc))
          rfl
        have ec : chunks 1 (z :: g).length ((((srtL (z :: g)).map mT).drop 0).take ((z :: g).length * 1)) = (srtL (z :: g)).map mT := by
          rw [List.drop_zero, List.take_of_length_le (by rw [hln]; simp)]
          exact chunks_one _ _ hln
        rw [ec]
        repeat' (first
    | ((show AL _ _ _ _ _ _ _ _; refine Ae Y ?_); (first
      | refine Aq hG Y Y ?_
      | refine A5 hG Y Y ?_
      | (show AOp _ _ ⟨_, .call ⟨.builtin .len, _, _⟩, _, _, _, _⟩ _ _ _; first | refine Br hG Y Y Y Y ?_ | refine Bx hG Y Y Y Y Y ?_)
      | (show AOp _ _ ⟨_, .binOp .add _ _ _ _, _, _, _, _⟩ _ _ _; first | refine Ab hG Y Y Y Y Y (by omega) ?_ | refine Ab (m := 1) hG Y Y Y Y Y (by omega) ?_ | refine Aa hG Y Y Y Y Y (by omega) ?_)
      | (show AOp _ _ ⟨_, .binOp _ _ _ _ _, _, _, _, _⟩ _ _ _; first | refine Au hG Y Y Y Y Y (by omega) ?_ | refine At hG Y Y Y Y Y (by omega) ?_ | (refine Am hG Y Y Y Y Y (fun h => ?_) (fun h => ?_)) | refine Bl hG Y Y Y ?_ | refine Bv hG Y Y Y Y ?_)
      | (show AOp _ _ ⟨_, .load _ _, _, _, _, _⟩ _ _ _; first | refine A2 0 sbT hG Y Y Y Y Y (by omega) Y ?_ | refine A1 0 sbT hG Y Y Y Y Y (by omega) Y ?_ | refine A2 1 sbT hG Y Y Y Y Y (by omega) Y ?_ | refine A1 1 sbT hG Y Y Y Y Y (by omega) Y ?_ | refine A2 2 sbT hG Y Y Y Y Y (by omega) Y ?_ | refine A1 2 sbT hG Y Y Y Y Y (by omega) Y ?_ | refine A2 3 sbT hG Y Y Y Y Y (by omega) Y ?_ | refine A1 3 sbT hG Y Y Y Y Y (by omega) Y ?_ | refine Ak (α := UInt16) 0 hG Y Y Y Y (by omega) Y ?_ | refine Ak (α := UInt16) 1 hG Y Y Y Y (by omega) Y ?_ | refine Ay hG Y Y Y ?_ | refine A8 0 hG Y Y Y Y ?_ | refine A8 1 hG Y Y Y Y ?_ | refine A8 2 hG Y Y Y Y ?_)
      | (show AOp _ _ ⟨_, .indexAddr _ _ _, _, _, _, _⟩ _ _ _; first | refine Bw (sz := 4) hG Y Y Y Y Y Y Y (by omega) ?_ | refine A4 hG Y Y Y Y Y Y Y (by omega) ?_ | refine Az hG Y Y Y Y Y Y Y (by omega) ?_ | refine Ax hG Y Y Y Y Y Y Y (by omega) ?_ | refine Bb hG Y Y ?_)
      | (show AOp _ _ ⟨_, .buildSlice _ _ _, _, _, _, _⟩ _ _ _; first | refine r_mk (sz := 1) hG Y Y Y Y Y Y Y ?_)
      | (show AOp _ _ ⟨_, .alloc _, _, _, _, _⟩ _ _ _; refine B9 hG Y Y (fun i => ?_))
      | (show AOp _ _ ⟨_, .store _ _ _, _, _, _, _⟩ _ _ _; first | refine A0 (α := UInt16) 0 hG Y Y Y hT_cells hT_sc Y Y (by first | omega | (simp only [Array.size_setIfInBounds]; omega)) ?_ | refine A0 (α := UInt16) 1 hG Y Y Y hT_cells hT_sc Y Y (by first | omega | (simp only [Array.size_setIfInBounds]; omega)) ?_ | refine Bg 0 hG Y Y Y Y Y Y Y ?_ | refine Bg 1 hG Y Y Y Y Y Y Y ?_ | refine Bg 2 hG Y Y Y Y Y Y Y ?_)
      | (show AOp _ _ ⟨_, .call ⟨.builtin .append, _, _⟩, _, _, _, _⟩ _ _ _; first | refine Cd (sz := 1) (xs := []) hG Y Y Y Y Y Y Y ⟨_, Y⟩ Y Y Y Y Y Y Y (by first | omega | (simp; omega)) (fun k => ?_) | refine r_appm 0 hG Y Y Y Y Y Y Y ⟨_, Y⟩ Y Y Y Y Y (by first | omega | (simp only [List.length_append, List.length_cons, List.length_nil]; omega)) (fun k => ?_) | fail)
      | refine r_q hG Y Y Y ?_))
    | (show AL _ _ _ _ _ _ _ _; first | refine Bj Y Y Y ?_ | (refine Ar ?_; first | show AW _ _ _ _ _ _ | show ∃ x', _ < _ ∧ _)) | (show AW _ _ (.seq _ _) _ _ _; refine Ah ?_; intro Q1) | (show AW _ _ (.region _ _ false) _ _ _; refine Ad ?_; intro O1) | (show AW _ _ (.cond _ _ _) _ _ _; first | refine Ao Y ?_ | refine Ap Y ?_ | refine Bf Y (fun h => ?_) (fun h => ?_)) | (show AW _ _ (.skip) _ _ _; refine Aj ?_; first | show AW _ _ _ _ _ _ | show ∃ x', _ < _ ∧ _) | (show AW _ _ (.block _ _) _ _ _; refine Af ?_; intro Q1) | (show AW _ _ (.exit _) _ _ _; refine As ?_; first | show AW _ _ _ _ _ _ | show ∃ x', _ < _ ∧ _) | (show AW _ _ (.ret) _ _ _; refine Av ?_; try dsimp only [A3, Ac, A7, Ag]) | fail)
        exact ret_onL (r := .sl 1 .no ((srtL (z :: g)).map mT)) (Bq rfl Bo) (.refl _) (.refl _) (.refl _) rfl ⟨by rw [hR], rfl⟩
def sizeA (l : List SB) : Nat := (l.map fun s => if s.taken = true then s.bs.length else 0).sum
structure SzX (l : List SB) where
  i : Nat
  hi : i ≤ l.length
theorem sum_le : ∀ (l : List Nat), (∀ x ∈ l, x ≤ 1000000) → l.sum ≤ l.length * 1000000
  | [], _ => by simp
  | x :: l, h => by
    have := sum_le l fun y hy => h y (by simp [hy])
    have := h x (by simp)
    simp only [List.sum_cons, List.length_cons, Nat.add_mul]; omega
theorem sizeA_le {l : List SB} (hb : ∀ s ∈ l, s.bs.length ≤ 1000000) : sizeA l ≤ l.length * 1000000 := by
  unfold sizeA
  refine Nat.le_trans (sum_le _ fun x hx => ?_) (by rw [List.length_map]; exact Nat.le_refl _)
  obtain ⟨s, hs, rfl⟩ := List.mem_map.1 hx
  have := hb s hs
  split <;> omega
theorem sizeA_succ {l : List SB} {i : Nat} (h : i < l.length) : sizeA (l.take (i + 1)) = sizeA (l.take i) + (if (l.getD i default).taken = true then (l.getD i default).bs.length else 0) := by
  unfold sizeA
  rw [List.take_add_one, List.map_append, List.sum_append]
  simp [h, List.getD]
set_option maxHeartbeats 1000000 in
theorem arena_Size (v : UInt8) (l : List SB) (at' : List (Nat × Int)) (hl : l.length ≤ 255) (hb : ∀ s ∈ l, s.bs.length ≤ 1000000) (p ri m : Nat) : OnL Try.prog 35 [.ptr p 0] (arL v l at' p ri m) (fun u L => u = .int .i64 (sizeA l : Int) ∧ L = arL v l at' p ri m) := by
  intro off
  cases l with
  | nil =>
    refine Bp (N := 24) (rs := [.tmp 2]) hG Try.func35 rfl rfl rfl rfl rfl ?_
    repeat' (first
    | ((show AL _ _ _ _ _ _ _ _; refine Ae Y ?_); (first
      | refine Aq hG Y Y ?_
      | refine A5 hG Y Y ?_
      | (show AOp _ _ ⟨_, .call ⟨.builtin .len, _, _⟩, _, _, _, _⟩ _ _ _; first | refine Br hG Y Y Y Y ?_ | refine Bx hG Y Y Y Y Y ?_)
      | (show AOp _ _ ⟨_, .binOp .add _ _ _ _, _, _, _, _⟩ _ _ _; first | refine Ab hG Y Y Y Y Y (by omega) ?_ | refine Ab (m := 1) hG Y Y Y Y Y (by omega) ?_ | refine Aa hG Y Y Y Y Y (by omega) ?_)
      | (show AOp _ _ ⟨_, .binOp _ _ _ _ _, _, _, _, _⟩ _ _ _; first | refine Au hG Y Y Y Y Y (by omega) ?_ | refine At hG Y Y Y Y Y (by omega) ?_ | (refine Am hG Y Y Y Y Y (fun h => ?_) (fun h => ?_)) | refine Bl hG Y Y Y ?_ | refine Bv hG Y Y Y Y ?_)
      | (show AOp _ _ ⟨_, .load _ _, _, _, _, _⟩ _ _ _; first | refine A2 0 sbT hG Y Y Y Y Y (by omega) Y ?_ | refine A1 0 sbT hG Y Y Y Y Y (by omega) Y ?_ | refine A2 1 sbT hG Y Y Y Y Y (by omega) Y ?_ | refine A1 1 sbT hG Y Y Y Y Y (by omega) Y ?_ | refine A2 2 sbT hG Y Y Y Y Y (by omega) Y ?_ | refine A1 2 sbT hG Y Y Y Y Y (by omega) Y ?_ | refine A2 3 sbT hG Y Y Y Y Y (by omega) Y ?_ | refine A1 3 sbT hG Y Y Y Y Y (by omega) Y ?_ | refine Ak (α := UInt16) 0 hG Y Y Y Y (by omega) Y ?_ | refine Ak (α := UInt16) 1 hG Y Y Y Y (by omega) Y ?_ | refine Ay hG Y Y Y ?_ | refine A8 0 hG Y Y Y Y ?_ | refine A8 1 hG Y Y Y Y ?_ | refine A8 2 hG Y Y Y Y ?_)
      | (show AOp _ _ ⟨_, .indexAddr _ _ _, _, _, _, _⟩ _ _ _; first | refine Bw (sz := 4) hG Y Y Y Y Y Y Y (by omega) ?_ | refine A4 hG Y Y Y Y Y Y Y (by omega) ?_ | refine Az hG Y Y Y Y Y Y Y (by omega) ?_ | refine Ax hG Y Y Y Y Y Y Y (by omega) ?_ | refine Bb hG Y Y ?_)
      | (show AOp _ _ ⟨_, .alloc _, _, _, _, _⟩ _ _ _; refine B9 hG Y Y (fun i => ?_))
      | (show AOp _ _ ⟨_, .store _ _ _, _, _, _, _⟩ _ _ _; first | refine A0 (α := UInt16) 0 hG Y Y Y hT_cells hT_sc Y Y (by first | omega | (simp only [Array.size_setIfInBounds]; omega)) ?_ | refine A0 (α := UInt16) 1 hG Y Y Y hT_cells hT_sc Y Y (by first | omega | (simp only [Array.size_setIfInBounds]; omega)) ?_ | refine Bg 0 hG Y Y Y Y Y Y Y ?_ | refine Bg 1 hG Y Y Y Y Y Y Y ?_ | refine Bg 2 hG Y Y Y Y Y Y Y ?_)
      | refine r_q hG Y Y Y ?_))
    | (show AL _ _ _ _ _ _ _ _; first | refine Bj Y Y Y ?_ | (refine Ar ?_; first | show AW _ _ _ _ _ _ | show ∃ x', _ < _ ∧ _)) | (show AW _ _ (.seq _ _) _ _ _; refine Ah ?_; intro Q1) | (show AW _ _ (.region _ _ false) _ _ _; refine Ad ?_; intro O1) | (show AW _ _ (.cond _ _ _) _ _ _; first | refine Ao Y ?_ | refine Ap Y ?_ | refine Bf Y (fun h => ?_) (fun h => ?_)) | (show AW _ _ (.skip) _ _ _; refine Aj ?_; first | show AW _ _ _ _ _ _ | show ∃ x', _ < _ ∧ _) | (show AW _ _ (.block _ _) _ _ _; refine Af ?_; intro Q1) | (show AW _ _ (.exit _) _ _ _; refine As ?_; first | show AW _ _ _ _ _ _ | show ∃ x', _ < _ ∧ _) | (show AW _ _ (.ret) _ _ _; refine Av ?_; try dsimp only [A3, Ac, A7, Ag]) | fail)
    refine aw_loop (X := Unit) (fun _ => [(3, .int .i64 0), (12, .int .i64 0), (13, .int .i64 0)]) (fun _ => ⟨arL v [] at' p ri m, [], off, none⟩) (fun _ => 0) () (by repeat (first | exact .nil _ | refine .cons rfl ?_)) (.refl _) ?_
    intro _
    repeat' (first
    | ((show AL _ _ _ _ _ _ _ _; refine Ae Y ?_); (first
      | refine Aq hG Y Y ?_
      | refine A5 hG Y Y ?_
      | (show AOp _ _ ⟨_, .call ⟨.builtin .len, _, _⟩, _, _, _, _⟩ _ _ _; first | refine Br hG Y Y Y Y ?_ | refine Bx hG Y Y Y Y Y ?_)
      | (show AOp _ _ ⟨_, .binOp .add _ _ _ _, _, _, _, _⟩ _ _ _; first | refine Ab hG Y Y Y Y Y (by omega) ?_ | refine Ab (m := 1) hG Y Y Y Y Y (by omega) ?_ | refine Aa hG Y Y Y Y Y (by omega) ?_)
      | (show AOp _ _ ⟨_, .binOp _ _ _ _ _, _, _, _, _⟩ _ _ _; first | refine Au hG Y Y Y Y Y (by omega) ?_ | refine At hG Y Y Y Y Y (by omega) ?_ | (refine Am hG Y Y Y Y Y (fun h => ?_) (fun h => ?_)) | refine Bl hG Y Y Y ?_ | refine Bv hG Y Y Y Y ?_)
      | (show AOp _ _ ⟨_, .load _ _, _, _, _, _⟩ _ _ _; first | refine A2 0 sbT hG Y Y Y Y Y (by omega) Y ?_ | refine A1 0 sbT hG Y Y Y Y Y (by omega) Y ?_ | refine A2 1 sbT hG Y Y Y Y Y (by omega) Y ?_ | refine A1 1 sbT hG Y Y Y Y Y (by omega) Y ?_ | refine A2 2 sbT hG Y Y Y Y Y (by omega) Y ?_ | refine A1 2 sbT hG Y Y Y Y Y (by omega) Y ?_ | refine A2 3 sbT hG Y Y Y Y Y (by omega) Y ?_ | refine A1 3 sbT hG Y Y Y Y Y (by omega) Y ?_ | refine Ak (α := UInt16) 0 hG Y Y Y Y (by omega) Y ?_ | refine Ak (α := UInt16) 1 hG Y Y Y Y (by omega) Y ?_ | refine Ay hG Y Y Y ?_ | refine A8 0 hG Y Y Y Y ?_ | refine A8 1 hG Y Y Y Y ?_ | refine A8 2 hG Y Y Y Y ?_)
      | (show AOp _ _ ⟨_, .indexAddr _ _ _, _, _, _, _⟩ _ _ _; first | refine Bw (sz := 4) hG Y Y Y Y Y Y Y (by omega) ?_ | refine A4 hG Y Y Y Y Y Y Y (by omega) ?_ | refine Az hG Y Y Y Y Y Y Y (by omega) ?_ | refine Ax hG Y Y Y Y Y Y Y (by omega) ?_ | refine Bb hG Y Y ?_)
      | (show AOp _ _ ⟨_, .alloc _, _, _, _, _⟩ _ _ _; refine B9 hG Y Y (fun i => ?_))
      | (show AOp _ _ ⟨_, .store _ _ _, _, _, _, _⟩ _ _ _; first | refine A0 (α := UInt16) 0 hG Y Y Y hT_cells hT_sc Y Y (by first | omega | (simp only [Array.size_setIfInBounds]; omega)) ?_ | refine A0 (α := UInt16) 1 hG Y Y Y hT_cells hT_sc Y Y (by first | omega | (simp only [Array.size_setIfInBounds]; omega)) ?_ | refine Bg 0 hG Y Y Y Y Y Y Y ?_ | refine Bg 1 hG Y Y Y Y Y Y Y ?_ | refine Bg 2 hG Y Y Y Y Y Y Y ?_)
      | refine r_q hG Y Y Y ?_))
    | (show AL _ _ _ _ _ _ _ _; first | refine Bj Y Y Y ?_ | (refine Ar ?_; first | show AW _ _ _ _ _ _ | show ∃ x', _ < _ ∧ _)) | (show AW _ _ (.seq _ _) _ _ _; refine Ah ?_; intro Q1) | (show AW _ _ (.region _ _ false) _ _ _; refine Ad ?_; intro O1) | (show AW _ _ (.cond _ _ _) _ _ _; first | refine Ao Y ?_ | refine Ap Y ?_ | refine Bf Y (fun h => ?_) (fun h => ?_)) | (show AW _ _ (.skip) _ _ _; refine Aj ?_; first | show AW _ _ _ _ _ _ | show ∃ x', _ < _ ∧ _) | (show AW _ _ (.block _ _) _ _ _; refine Af ?_; intro Q1) | (show AW _ _ (.exit _) _ _ _; refine As ?_; first | show AW _ _ _ _ _ _ | show ∃ x', _ < _ ∧ _) | (show AW _ _ (.ret) _ _ _; refine Av ?_; try dsimp only [A3, Ac, A7, Ag]) | fail)
    exact ret_onL (Bq rfl Bo) (.refl _) (.refl _) (.refl _) rfl ⟨rfl, rfl⟩
  | cons s l' =>
    obtain ⟨l, hll⟩ : ∃ l, s :: l' = l := ⟨_, rfl⟩
    have hne : l ≠ [] := by rw [← hll]; simp
    rw [hll] at hl hb ⊢
    have hA : arL v l at' p ri m = [(p, .cells [bT v, .aref 4 ri 0 l.length none, .map (some m)]), (m, .map (at'.map kvT)), (ri, .cells (flat (l.map sbT)))] := by
      unfold arL; rw [slT_ne hne, rowOf_ne hne]
    rw [hA]
    clear hll
    refine Bp (N := 24) (rs := [.tmp 2]) hG Try.func35 rfl rfl rfl rfl rfl ?_
    repeat' (first
    | ((show AL _ _ _ _ _ _ _ _; refine Ae Y ?_); (first
      | refine Aq hG Y Y ?_
      | refine A5 hG Y Y ?_
      | (show AOp _ _ ⟨_, .call ⟨.builtin .len, _, _⟩, _, _, _, _⟩ _ _ _; first | refine Br hG Y Y Y Y ?_ | refine Bx hG Y Y Y Y Y ?_)
      | (show AOp _ _ ⟨_, .binOp .add _ _ _ _, _, _, _, _⟩ _ _ _; first | refine Ab hG Y Y Y Y Y (by omega) ?_ | refine Ab (m := 1) hG Y Y Y Y Y (by omega) ?_ | refine Aa hG Y Y Y Y Y (by omega) ?_)
      | (show AOp _ _ ⟨_, .binOp _ _ _ _ _, _, _, _, _⟩ _ _ _; first | refine Au hG Y Y Y Y Y (by omega) ?_ | refine At hG Y Y Y Y Y (by omega) ?_ | (refine Am hG Y Y Y Y Y (fun h => ?_) (fun h => ?_)) | refine Bl hG Y Y Y ?_ | refine Bv hG Y Y Y Y ?_)
      | (show AOp _ _ ⟨_, .load _ _, _, _, _, _⟩ _ _ _; first | refine A2 0 sbT hG Y Y Y Y Y (by omega) Y ?_ | refine A1 0 sbT hG Y Y Y Y Y (by omega) Y ?_ | refine A2 1 sbT hG Y Y Y Y Y (by omega) Y ?_ | refine A1 1 sbT hG Y Y Y Y Y (by omega) Y ?_ | refine A2 2 sbT hG Y Y Y Y Y (by omega) Y ?_ | refine A1 2 sbT hG Y Y Y Y Y (by omega) Y ?_ | refine A2 3 sbT hG Y Y Y Y Y (by omega) Y ?_ | refine A1 3 sbT hG Y Y Y Y Y (by omega) Y ?_ | refine Ak (α := UInt16) 0 hG Y Y Y Y (by omega) Y ?_ | refine Ak (α := UInt16) 1 hG Y Y Y Y (by omega) Y ?_ | refine Ay hG Y Y Y ?_ | refine A8 0 hG Y Y Y Y ?_ | refine A8 1 hG Y Y Y Y ?_ | refine A8 2 hG Y Y Y Y ?_)
      | (show AOp _ _ ⟨_, .indexAddr _ _ _, _, _, _, _⟩ _ _ _; first | refine Bw (sz := 4) hG Y Y Y Y Y Y Y (by omega) ?_ | refine A4 hG Y Y Y Y Y Y Y (by omega) ?_ | refine Az hG Y Y Y Y Y Y Y (by omega) ?_ | refine Ax hG Y Y Y Y Y Y Y (by omega) ?_ | refine Bb hG Y Y ?_)
      | (show AOp _ _ ⟨_, .alloc _, _, _, _, _⟩ _ _ _; refine B9 hG Y Y (fun i => ?_))
      | (show AOp _ _ ⟨_, .store _ _ _, _, _, _, _⟩ _ _ _; first | refine A0 (α := UInt16) 0 hG Y Y Y hT_cells hT_sc Y Y (by first | omega | (simp only [Array.size_setIfInBounds]; omega)) ?_ | refine A0 (α := UInt16) 1 hG Y Y Y hT_cells hT_sc Y Y (by first | omega | (simp only [Array.size_setIfInBounds]; omega)) ?_ | refine Bg 0 hG Y Y Y Y Y Y Y ?_ | refine Bg 1 hG Y Y Y Y Y Y Y ?_ | refine Bg 2 hG Y Y Y Y Y Y Y ?_)
      | refine r_q hG Y Y Y ?_))
    | (show AL _ _ _ _ _ _ _ _; first | refine Bj Y Y Y ?_ | (refine Ar ?_; first | show AW _ _ _ _ _ _ | show ∃ x', _ < _ ∧ _)) | (show AW _ _ (.seq _ _) _ _ _; refine Ah ?_; intro Q1) | (show AW _ _ (.region _ _ false) _ _ _; refine Ad ?_; intro O1) | (show AW _ _ (.cond _ _ _) _ _ _; first | refine Ao Y ?_ | refine Ap Y ?_ | refine Bf Y (fun h => ?_) (fun h => ?_)) | (show AW _ _ (.skip) _ _ _; refine Aj ?_; first | show AW _ _ _ _ _ _ | show ∃ x', _ < _ ∧ _) | (show AW _ _ (.block _ _) _ _ _; refine Af ?_; intro Q1) | (show AW _ _ (.exit _) _ _ _; refine As ?_; first | show AW _ _ _ _ _ _ | show ∃ x', _ < _ ∧ _) | (show AW _ _ (.ret) _ _ _; refine Av ?_; try dsimp only [A3, Ac, A7, Ag]) | fail)
    refine aw_loop (X := SzX l) (fun x => [(3, .int .i64 (sizeA (l.take x.i) : Int)), (11, .aref 4 ri 0 l.length none), (12, .int .i64 (l.length : Int)), (13, .int .i64 (x.i : Int))]) (fun x => ⟨[(p, .cells [bT v, .aref 4 ri 0 l.length none, .map (some m)]), (m, .map (at'.map kvT)), (ri, .cells (flat (l.map sbT)))], [], off, none⟩) (fun x => l.length - x.i) ⟨0, Nat.zero_le _⟩ (by repeat (first | exact .nil _ | refine .cons rfl ?_)) (.refl _) ?_
    rintro ⟨q, hi⟩
    dsimp only
    have hsz : sizeA (l.take q) ≤ 255000000 := by
      refine Nat.le_trans (sizeA_le fun s hs => hb s (List.mem_of_mem_take hs)) ?_
      rw [List.length_take]; omega
    by_cases hil : q < l.length
    · have hks := sizeA_succ hil
      have hbq := hb (l.getD q default) (by simp [List.getD, hil])
      generalize sizeA (l.take q) = n at *
      have hsc : ∀ s : SB, (notRaw (sbT s) && (sbT s).cells.all T.scalar) = true := fun s => by
        unfold sbT recT
        cases s.taken <;> rfl
      cases ht : (l.getD q default).taken with
      | true =>
        rw [if_pos ht] at hks
        have hrec : recT (l.getD q default) = .sl 1 .no ((l.getD q default).bs.map bT) := by unfold recT; rw [ht]; rfl
        repeat' (first
    | ((show AL _ _ _ _ _ _ _ _; refine Ae Y ?_); (first
      | refine Aq hG Y Y ?_
      | refine A5 hG Y Y ?_
      | (show AOp _ _ ⟨_, .call ⟨.builtin .len, _, _⟩, _, _, _, _⟩ _ _ _; first | refine Br hG Y Y Y Y ?_ | refine Bx hG Y Y Y Y Y ?_)
      | (show AOp _ _ ⟨_, .binOp .add _ _ _ _, _, _, _, _⟩ _ _ _; first | refine Ab hG Y Y Y Y Y (by omega) ?_ | refine Ab (m := 1) hG Y Y Y Y Y (by omega) ?_ | refine Aa hG Y Y Y Y Y (by omega) ?_)
      | (show AOp _ _ ⟨_, .binOp _ _ _ _ _, _, _, _, _⟩ _ _ _; first | refine Au hG Y Y Y Y Y (by omega) ?_ | refine At hG Y Y Y Y Y (by omega) ?_ | (refine Am hG Y Y Y Y Y (fun h => ?_) (fun h => ?_)) | refine Bl hG Y Y Y ?_ | refine Bv hG Y Y Y Y ?_)
      | (show AOp _ _ ⟨_, .load _ _, _, _, _, _⟩ _ _ _; first | refine A2 0 sbT hG Y Y Y Y Y (by omega) Y ?_ | refine A1 0 sbT hG Y Y Y Y Y (by omega) Y ?_ | refine A2 1 sbT hG Y Y Y Y Y (by omega) Y ?_ | refine A1 1 sbT hG Y Y Y Y Y (by omega) Y ?_ | refine A2 2 sbT hG Y Y Y Y Y (by omega) Y ?_ | refine A1 2 sbT hG Y Y Y Y Y (by omega) Y ?_ | refine A2 3 sbT hG Y Y Y Y Y (by omega) Y ?_ | refine A1 3 sbT hG Y Y Y Y Y (by omega) Y ?_ | refine Ak (α := UInt16) 0 hG Y Y Y Y (by omega) Y ?_ | refine Ak (α := UInt16) 1 hG Y Y Y Y (by omega) Y ?_ | refine Ay hG Y Y Y ?_ | refine A8 0 hG Y Y Y Y ?_ | refine A8 1 hG Y Y Y Y ?_ | refine A8 2 hG Y Y Y Y ?_)
      | (show AOp _ _ ⟨_, .indexAddr _ _ _, _, _, _, _⟩ _ _ _; first | refine Bw (sz := 4) hG Y Y Y Y Y Y Y (by omega) ?_ | refine A4 hG Y Y Y Y Y Y Y (by omega) ?_ | refine Az hG Y Y Y Y Y Y Y (by omega) ?_ | refine Ax hG Y Y Y Y Y Y Y (by omega) ?_ | refine Bb hG Y Y ?_)
      | (show AOp _ _ ⟨_, .alloc _, _, _, _, _⟩ _ _ _; refine B9 hG Y Y (fun i => ?_))
      | (show AOp _ _ ⟨_, .store _ _ _, _, _, _, _⟩ _ _ _; fail)
      | refine r_q hG Y Y Y ?_))
    | (show AL _ _ _ _ _ _ _ _; first | refine Bj Y Y Y ?_ | (refine Ar ?_; first | show AW _ _ _ _ _ _ | show ∃ x', _ < _ ∧ _)) | (show AW _ _ (.seq _ _) _ _ _; refine Ah ?_; intro Q1) | (show AW _ _ (.region _ _ false) _ _ _; refine Ad ?_; intro O1) | (show AW _ _ (.cond _ _ _) _ _ _; first | refine Ao Y ?_ | refine Ap Y ?_ | refine Bf Y (fun h => ?_) (fun h => ?_)) | (show AW _ _ (.skip) _ _ _; refine Aj ?_; first | show AW _ _ _ _ _ _ | show ∃ x', _ < _ ∧ _) | (show AW _ _ (.block _ _) _ _ _; refine Af ?_; intro Q1) | (show AW _ _ (.exit _) _ _ _; refine As ?_; first | show AW _ _ _ _ _ _ | show ∃ x', _ < _ ∧ _) | (show AW _ _ (.ret) _ _ _; refine Av ?_; try dsimp only [A3, Ac, A7, Ag]) | fail)
        refine Ae rfl ?_
        refine Bg 0 (u := sbT (l.getD q default)) hG rfl rfl rfl (hsc _) rfl rfl rfl ?_
        repeat' (first
    | ((show AL _ _ _ _ _ _ _ _; refine Ae Y ?_); (first
      | refine Aq hG Y Y ?_
      | refine A5 hG Y Y ?_
      | (show AOp _ _ ⟨_, .call ⟨.builtin .len, _, _⟩, _, _, _, _⟩ _ _ _; fail)
      | (show AOp _ _ ⟨_, .binOp .add _ _ _ _, _, _, _, _⟩ _ _ _; first | refine Ab hG Y Y Y Y Y (by omega) ?_ | refine Ab (m := 1) hG Y Y Y Y Y (by omega) ?_ | refine Aa hG Y Y Y Y Y (by omega) ?_)
      | (show AOp _ _ ⟨_, .binOp _ _ _ _ _, _, _, _, _⟩ _ _ _; first | refine Au hG Y Y Y Y Y (by omega) ?_ | refine At hG Y Y Y Y Y (by omega) ?_ | (refine Am hG Y Y Y Y Y (fun h => ?_) (fun h => ?_)) | refine Bl hG Y Y Y ?_ | refine Bv hG Y Y Y Y ?_)
      | (show AOp _ _ ⟨_, .load _ _, _, _, _, _⟩ _ _ _; first | refine A2 0 sbT hG Y Y Y Y Y (by omega) Y ?_ | refine A1 0 sbT hG Y Y Y Y Y (by omega) Y ?_ | refine A2 1 sbT hG Y Y Y Y Y (by omega) Y ?_ | refine A1 1 sbT hG Y Y Y Y Y (by omega) Y ?_ | refine A2 2 sbT hG Y Y Y Y Y (by omega) Y ?_ | refine A1 2 sbT hG Y Y Y Y Y (by omega) Y ?_ | refine A2 3 sbT hG Y Y Y Y Y (by omega) Y ?_ | refine A1 3 sbT hG Y Y Y Y Y (by omega) Y ?_ | refine Ak (α := UInt16) 0 hG Y Y Y Y (by omega) Y ?_ | refine Ak (α := UInt16) 1 hG Y Y Y Y (by omega) Y ?_ | refine Ay hG Y Y Y ?_ | refine A8 0 hG Y Y Y Y ?_ | refine A8 1 hG Y Y Y Y ?_ | refine A8 2 hG Y Y Y Y ?_)
      | (show AOp _ _ ⟨_, .indexAddr _ _ _, _, _, _, _⟩ _ _ _; first | refine Bw (sz := 4) hG Y Y Y Y Y Y Y (by omega) ?_ | refine A4 hG Y Y Y Y Y Y Y (by omega) ?_ | refine Az hG Y Y Y Y Y Y Y (by omega) ?_ | refine Ax hG Y Y Y Y Y Y Y (by omega) ?_ | refine Bb hG Y Y ?_)
      | (show AOp _ _ ⟨_, .alloc _, _, _, _, _⟩ _ _ _; refine B9 hG Y Y (fun i => ?_))
      | (show AOp _ _ ⟨_, .store _ _ _, _, _, _, _⟩ _ _ _; first | refine A0 (α := UInt16) 0 hG Y Y Y hT_cells hT_sc Y Y (by first | omega | (simp only [Array.size_setIfInBounds]; omega)) ?_ | refine A0 (α := UInt16) 1 hG Y Y Y hT_cells hT_sc Y Y (by first | omega | (simp only [Array.size_setIfInBounds]; omega)) ?_ | refine Bg 0 hG Y Y Y Y Y Y Y ?_ | refine Bg 1 hG Y Y Y Y Y Y Y ?_ | refine Bg 2 hG Y Y Y Y Y Y Y ?_)
      | refine r_q hG Y Y Y ?_))
    | (show AL _ _ _ _ _ _ _ _; first | refine Bj Y Y Y ?_ | (refine Ar ?_; first | show AW _ _ _ _ _ _ | show ∃ x', _ < _ ∧ _)) | (show AW _ _ (.seq _ _) _ _ _; refine Ah ?_; intro Q1) | (show AW _ _ (.region _ _ false) _ _ _; refine Ad ?_; intro O1) | (show AW _ _ (.cond _ _ _) _ _ _; first | refine Ao Y ?_ | refine Ap Y ?_ | refine Bf Y (fun h => ?_) (fun h => ?_)) | (show AW _ _ (.skip) _ _ _; refine Aj ?_; first | show AW _ _ _ _ _ _ | show ∃ x', _ < _ ∧ _) | (show AW _ _ (.block _ _) _ _ _; refine Af ?_; intro Q1) | (show AW _ _ (.exit _) _ _ _; refine As ?_; first | show AW _ _ _ _ _ _ | show ∃ x', _ < _ ∧ _) | (show AW _ _ (.ret) _ _ _; refine Av ?_; try dsimp only [A3, Ac, A7, Ag]) | fail)
        refine al_slot 19 rfl (u := .sl 1 .no ((l.getD q default).bs.map bT)) (.eq hrec) ?_
        repeat' (first
    | ((show AL _ _ _ _ _ _ _ _; refine Ae Y ?_); (first
      | refine Aq hG Y Y ?_
      | refine A5 hG Y Y ?_
      | (show AOp _ _ ⟨_, .call ⟨.builtin .len, _, _⟩, _, _, _, _⟩ _ _ _; first | refine Br hG Y Y Y Y ?_ | refine Bx hG Y Y Y Y Y ?_)
      | (show AOp _ _ ⟨_, .binOp .add _ _ _ _, _, _, _, _⟩ _ _ _; first | refine Ab hG Y Y Y Y Y (by omega) ?_ | refine Ab (m := 1) hG Y Y Y Y Y (by omega) ?_ | refine Aa hG Y Y Y Y Y (by omega) ?_)
      | (show AOp _ _ ⟨_, .binOp _ _ _ _ _, _, _, _, _⟩ _ _ _; first | refine Au hG Y Y Y Y Y (by omega) ?_ | refine At hG Y Y Y Y Y (by omega) ?_ | (refine Am hG Y Y Y Y Y (fun h => ?_) (fun h => ?_)) | refine Bl hG Y Y Y ?_ | refine Bv hG Y Y Y Y ?_)
      | (show AOp _ _ ⟨_, .load _ _, _, _, _, _⟩ _ _ _; first | refine A2 0 sbT hG Y Y Y Y Y (by omega) Y ?_ | refine A1 0 sbT hG Y Y Y Y Y (by omega) Y ?_ | refine A2 1 sbT hG Y Y Y Y Y (by omega) Y ?_ | refine A1 1 sbT hG Y Y Y Y Y (by omega) Y ?_ | refine A2 2 sbT hG Y Y Y Y Y (by omega) Y ?_ | refine A1 2 sbT hG Y Y Y Y Y (by omega) Y ?_ | refine A2 3 sbT hG Y Y Y Y Y (by omega) Y ?_ | refine A1 3 sbT hG Y Y Y Y Y (by omega) Y ?_ | refine Ak (α := UInt16) 0 hG Y Y Y Y (by omega) Y ?_ | refine Ak (α := UInt16) 1 hG Y Y Y Y (by omega) Y ?_ | refine Ay hG Y Y Y ?_ | refine A8 0 hG Y Y Y Y ?_ | refine A8 1 hG Y Y Y Y ?_ | refine A8 2 hG Y Y Y Y ?_)
      | (show AOp _ _ ⟨_, .indexAddr _ _ _, _, _, _, _⟩ _ _ _; first | refine Bw (sz := 4) hG Y Y Y Y Y Y Y (by omega) ?_ | refine A4 hG Y Y Y Y Y Y Y (by omega) ?_ | refine Az hG Y Y Y Y Y Y Y (by omega) ?_ | refine Ax hG Y Y Y Y Y Y Y (by omega) ?_ | refine Bb hG Y Y ?_)
      | (show AOp _ _ ⟨_, .alloc _, _, _, _, _⟩ _ _ _; refine B9 hG Y Y (fun i => ?_))
      | (show AOp _ _ ⟨_, .store _ _ _, _, _, _, _⟩ _ _ _; first | refine A0 (α := UInt16) 0 hG Y Y Y hT_cells hT_sc Y Y (by first | omega | (simp only [Array.size_setIfInBounds]; omega)) ?_ | refine A0 (α := UInt16) 1 hG Y Y Y hT_cells hT_sc Y Y (by first | omega | (simp only [Array.size_setIfInBounds]; omega)) ?_ | refine Bg 0 hG Y Y Y Y Y Y Y ?_ | refine Bg 1 hG Y Y Y Y Y Y Y ?_ | refine Bg 2 hG Y Y Y Y Y Y Y ?_)
      | refine r_q hG Y Y Y ?_))
    | (show AL _ _ _ _ _ _ _ _; first | refine Bj Y Y Y ?_ | (refine Ar ?_; first | show AW _ _ _ _ _ _ | show ∃ x', _ < _ ∧ _)) | (show AW _ _ (.seq _ _) _ _ _; refine Ah ?_; intro Q1) | (show AW _ _ (.region _ _ false) _ _ _; refine Ad ?_; intro O1) | (show AW _ _ (.cond _ _ _) _ _ _; first | refine Ao Y ?_ | refine Ap Y ?_ | refine Bf Y (fun h => ?_) (fun h => ?_)) | (show AW _ _ (.skip) _ _ _; refine Aj ?_; first | show AW _ _ _ _ _ _ | show ∃ x', _ < _ ∧ _) | (show AW _ _ (.block _ _) _ _ _; refine Af ?_; intro Q1) | (show AW _ _ (.exit _) _ _ _; refine As ?_; first | show AW _ _ _ _ _ _ | show ∃ x', _ < _ ∧ _) | (show AW _ _ (.ret) _ _ _; refine Av ?_; try dsimp only [A3, Ac, A7, Ag]) | fail)
        exact ⟨⟨q + 1, by omega⟩, by dsimp only; omega, .consW rfl (.int (by dsimp only; rw [hks]; try omega)) (.cons rfl (.cons rfl (.cons rfl (.nil _)))), keep_step (R' := []) (List.sublist_cons_self _ _) (List.nil_sublist _)⟩
      | false =>
        rw [if_neg (by rw [ht]; exact Bool.false_ne_true), Nat.add_zero] at hks
        have hrec : recT (l.getD q default) = .nilsl := by unfold recT; rw [ht]; rfl
        repeat' (first
    | ((show AL _ _ _ _ _ _ _ _; refine Ae Y ?_); (first
      | refine Aq hG Y Y ?_
      | refine A5 hG Y Y ?_
      | (show AOp _ _ ⟨_, .call ⟨.builtin .len, _, _⟩, _, _, _, _⟩ _ _ _; first | refine Br hG Y Y Y Y ?_ | refine Bx hG Y Y Y Y Y ?_)
      | (show AOp _ _ ⟨_, .binOp .add _ _ _ _, _, _, _, _⟩ _ _ _; first | refine Ab hG Y Y Y Y Y (by omega) ?_ | refine Ab (m := 1) hG Y Y Y Y Y (by omega) ?_ | refine Aa hG Y Y Y Y Y (by omega) ?_)
      | (show AOp _ _ ⟨_, .binOp _ _ _ _ _, _, _, _, _⟩ _ _ _; first | refine Au hG Y Y Y Y Y (by omega) ?_ | refine At hG Y Y Y Y Y (by omega) ?_ | (refine Am hG Y Y Y Y Y (fun h => ?_) (fun h => ?_)) | refine Bl hG Y Y Y ?_ | refine Bv hG Y Y Y Y ?_)
      | (show AOp _ _ ⟨_, .load _ _, _, _, _, _⟩ _ _ _; first | refine A2 0 sbT hG Y Y Y Y Y (by omega) Y ?_ | refine A1 0 sbT hG Y Y Y Y Y (by omega) Y ?_ | refine A2 1 sbT hG Y Y Y Y Y (by omega) Y ?_ | refine A1 1 sbT hG Y Y Y Y Y (by omega) Y ?_ | refine A2 2 sbT hG Y Y Y Y Y (by omega) Y ?_ | refine A1 2 sbT hG Y Y Y Y Y (by omega) Y ?_ | refine A2 3 sbT hG Y Y Y Y Y (by omega) Y ?_ | refine A1 3 sbT hG Y Y Y Y Y (by omega) Y ?_ | refine Ak (α := UInt16) 0 hG Y Y Y Y (by omega) Y ?_ | refine Ak (α := UInt16) 1 hG Y Y Y Y (by omega) Y ?_ | refine Ay hG Y Y Y ?_ | refine A8 0 hG Y Y Y Y ?_ | refine A8 1 hG Y Y Y Y ?_ | refine A8 2 hG Y Y Y Y ?_)
      | (show AOp _ _ ⟨_, .indexAddr _ _ _, _, _, _, _⟩ _ _ _; first | refine Bw (sz := 4) hG Y Y Y Y Y Y Y (by omega) ?_ | refine A4 hG Y Y Y Y Y Y Y (by omega) ?_ | refine Az hG Y Y Y Y Y Y Y (by omega) ?_ | refine Ax hG Y Y Y Y Y Y Y (by omega) ?_ | refine Bb hG Y Y ?_)
      | (show AOp _ _ ⟨_, .alloc _, _, _, _, _⟩ _ _ _; refine B9 hG Y Y (fun i => ?_))
      | (show AOp _ _ ⟨_, .store _ _ _, _, _, _, _⟩ _ _ _; fail)
      | refine r_q hG Y Y Y ?_))
    | (show AL _ _ _ _ _ _ _ _; first | refine Bj Y Y Y ?_ | (refine Ar ?_; first | show AW _ _ _ _ _ _ | show ∃ x', _ < _ ∧ _)) | (show AW _ _ (.seq _ _) _ _ _; refine Ah ?_; intro Q1) | (show AW _ _ (.region _ _ false) _ _ _; refine Ad ?_; intro O1) | (show AW _ _ (.cond _ _ _) _ _ _; first | refine Ao Y ?_ | refine Ap Y ?_ | refine Bf Y (fun h => ?_) (fun h => ?_)) | (show AW _ _ (.skip) _ _ _; refine Aj ?_; first | show AW _ _ _ _ _ _ | show ∃ x', _ < _ ∧ _) | (show AW _ _ (.block _ _) _ _ _; refine Af ?_; intro Q1) | (show AW _ _ (.exit _) _ _ _; refine As ?_; first | show AW _ _ _ _ _ _ | show ∃ x', _ < _ ∧ _) | (show AW _ _ (.ret) _ _ _; refine Av ?_; try dsimp only [A3, Ac, A7, Ag]) | fail)
        refine Ae rfl ?_
        refine Bg 0 (u := sbT (l.getD q default)) hG rfl rfl rfl (hsc _) rfl rfl rfl ?_
        repeat' (first
    | ((show AL _ _ _ _ _ _ _ _; refine Ae Y ?_); (first
      | refine Aq hG Y Y ?_
      | refine A5 hG Y Y ?_
      | (show AOp _ _ ⟨_, .call ⟨.builtin .len, _, _⟩, _, _, _, _⟩ _ _ _; fail)
      | (show AOp _ _ ⟨_, .binOp .add _ _ _ _, _, _, _, _⟩ _ _ _; first | refine Ab hG Y Y Y Y Y (by omega) ?_ | refine Ab (m := 1) hG Y Y Y Y Y (by omega) ?_ | refine Aa hG Y Y Y Y Y (by omega) ?_)
      | (show AOp _ _ ⟨_, .binOp _ _ _ _ _, _, _, _, _⟩ _ _ _; first | refine Au hG Y Y Y Y Y (by omega) ?_ | refine At hG Y Y Y Y Y (by omega) ?_ | (refine Am hG Y Y Y Y Y (fun h => ?_) (fun h => ?_)) | refine Bl hG Y Y Y ?_ | refine Bv hG Y Y Y Y ?_)
      | (show AOp _ _ ⟨_, .load _ _, _, _, _, _⟩ _ _ _; first | refine A2 0 sbT hG Y Y Y Y Y (by omega) Y ?_ | refine A1 0 sbT hG Y Y Y Y Y (by omega) Y ?_ | refine A2 1 sbT hG Y Y Y Y Y (by omega) Y ?_ | refine A1 1 sbT hG Y Y Y Y Y (by omega) Y ?_ | refine A2 2 sbT hG Y Y Y Y Y (by omega) Y ?_ | refine A1 2 sbT hG Y Y Y Y Y (by omega) Y ?_ | refine A2 3 sbT hG Y Y Y Y Y (by omega) Y ?_ | refine A1 3 sbT hG Y Y Y Y Y (by omega) Y ?_ | refine Ak (α := UInt16) 0 hG Y Y Y Y (by omega) Y ?_ | refine Ak (α := UInt16) 1 hG Y Y Y Y (by omega) Y ?_ | refine Ay hG Y Y Y ?_ | refine A8 0 hG Y Y Y Y ?_ | refine A8 1 hG Y Y Y Y ?_ | refine A8 2 hG Y Y Y Y ?_)
      | (show AOp _ _ ⟨_, .indexAddr _ _ _, _, _, _, _⟩ _ _ _; first | refine Bw (sz := 4) hG Y Y Y Y Y Y Y (by omega) ?_ | refine A4 hG Y Y Y Y Y Y Y (by omega) ?_ | refine Az hG Y Y Y Y Y Y Y (by omega) ?_ | refine Ax hG Y Y Y Y Y Y Y (by omega) ?_ | refine Bb hG Y Y ?_)
      | (show AOp _ _ ⟨_, .alloc _, _, _, _, _⟩ _ _ _; refine B9 hG Y Y (fun i => ?_))
      | (show AOp _ _ ⟨_, .store _ _ _, _, _, _, _⟩ _ _ _; first | refine A0 (α := UInt16) 0 hG Y Y Y hT_cells hT_sc Y Y (by first | omega | (simp only [Array.size_setIfInBounds]; omega)) ?_ | refine A0 (α := UInt16) 1 hG Y Y Y hT_cells hT_sc Y Y (by first | omega | (simp only [Array.size_setIfInBounds]; omega)) ?_ | refine Bg 0 hG Y Y Y Y Y Y Y ?_ | refine Bg 1 hG Y Y Y Y Y Y Y ?_ | refine Bg 2 hG Y Y Y Y Y Y Y ?_)
      | refine r_q hG Y Y Y ?_))
    | (show AL _ _ _ _ _ _ _ _; first | refine Bj Y Y Y ?_ | (refine Ar ?_; first | show AW _ _ _ _ _ _ | show ∃ x', _ < _ ∧ _)) | (show AW _ _ (.seq _ _) _ _ _; refine Ah ?_; intro Q1) | (show AW _ _ (.region _ _ false) _ _ _; refine Ad ?_; intro O1) | (show AW _ _ (.cond _ _ _) _ _ _; first | refine Ao Y ?_ | refine Ap Y ?_ | refine Bf Y (fun h => ?_) (fun h => ?_)) | (show AW _ _ (.skip) _ _ _; refine Aj ?_; first | show AW _ _ _ _ _ _ | show ∃ x', _ < _ ∧ _) | (show AW _ _ (.block _ _) _ _ _; refine Af ?_; intro Q1) | (show AW _ _ (.exit _) _ _ _; refine As ?_; first | show AW _ _ _ _ _ _ | show ∃ x', _ < _ ∧ _) | (show AW _ _ (.ret) _ _ _; refine Av ?_; try dsimp only [A3, Ac, A7, Ag]) | fail)
        refine al_slot 19 rfl (u := .nilsl) (.eq hrec) ?_
        repeat' (first
    | ((show AL _ _ _ _ _ _ _ _; refine Ae Y ?_); (first
      | refine Aq hG Y Y ?_
      | refine A5 hG Y Y ?_
      | (show AOp _ _ ⟨_, .call ⟨.builtin .len, _, _⟩, _, _, _, _⟩ _ _ _; first | refine Br hG Y Y Y Y ?_ | refine Bx hG Y Y Y Y Y ?_)
      | (show AOp _ _ ⟨_, .binOp .add _ _ _ _, _, _, _, _⟩ _ _ _; first | refine Ab hG Y Y Y Y Y (by omega) ?_ | refine Ab (m := 1) hG Y Y Y Y Y (by omega) ?_ | refine Aa hG Y Y Y Y Y (by omega) ?_)
      | (show AOp _ _ ⟨_, .binOp _ _ _ _ _, _, _, _, _⟩ _ _ _; first | refine Au hG Y Y Y Y Y (by omega) ?_ | refine At hG Y Y Y Y Y (by omega) ?_ | (refine Am hG Y Y Y Y Y (fun h => ?_) (fun h => ?_)) | refine Bl hG Y Y Y ?_ | refine Bv hG Y Y Y Y ?_)
      | (show AOp _ _ ⟨_, .load _ _, _, _, _, _⟩ _ _ _; first | refine A2 0 sbT hG Y Y Y Y Y (by omega) Y ?_ | refine A1 0 sbT hG Y Y Y Y Y (by omega) Y ?_ | refine A2 1 sbT hG Y Y Y Y Y (by omega) Y ?_ | refine A1 1 sbT hG Y Y Y Y Y (by omega) Y ?_ | refine A2 2 sbT hG Y Y Y Y Y (by omega) Y ?_ | refine A1 2 sbT hG Y Y Y Y Y (by omega) Y ?_ | refine A2 3 sbT hG Y Y Y Y Y (by omega) Y ?_ | refine A1 3 sbT hG Y Y Y Y Y (by omega) Y ?_ | refine Ak (α := UInt16) 0 hG Y Y Y Y (by omega) Y ?_ | refine Ak (α := UInt16) 1 hG Y Y Y Y (by omega) Y ?_ | refine Ay hG Y Y Y ?_ | refine A8 0 hG Y Y Y Y ?_ | refine A8 1 hG Y Y Y Y ?_ | refine A8 2 hG Y Y Y Y ?_)
      | (show AOp _ _ ⟨_, .indexAddr _ _ _, _, _, _, _⟩ _ _ _; first | refine Bw (sz := 4) hG Y Y Y Y Y Y Y (by omega) ?_ | refine A4 hG Y Y Y Y Y Y Y (by omega) ?_ | refine Az hG Y Y Y Y Y Y Y (by omega) ?_ | refine Ax hG Y Y Y Y Y Y Y (by omega) ?_ | refine Bb hG Y Y ?_)
      | (show AOp _ _ ⟨_, .alloc _, _, _, _, _⟩ _ _ _; refine B9 hG Y Y (fun i => ?_))
      | (show AOp _ _ ⟨_, .store _ _ _, _, _, _, _⟩ _ _ _; first | refine A0 (α := UInt16) 0 hG Y Y Y hT_cells hT_sc Y Y (by first | omega | (simp only [Array.size_setIfInBounds]; omega)) ?_ | refine A0 (α := UInt16) 1 hG Y Y Y hT_cells hT_sc Y Y (by first | omega | (simp only [Array.size_setIfInBounds]; omega)) ?_ | refine Bg 0 hG Y Y Y Y Y Y Y ?_ | refine Bg 1 hG Y Y Y Y Y Y Y ?_ | refine Bg 2 hG Y Y Y Y Y Y Y ?_)
      | refine r_q hG Y Y Y ?_))
    | (show AL _ _ _ _ _ _ _ _; first | refine Bj Y Y Y ?_ | (refine Ar ?_; first | show AW _ _ _ _ _ _ | show ∃ x', _ < _ ∧ _)) | (show AW _ _ (.seq _ _) _ _ _; refine Ah ?_; intro Q1) | (show AW _ _ (.region _ _ false) _ _ _; refine Ad ?_; intro O1) | (show AW _ _ (.cond _ _ _) _ _ _; first | refine Ao Y ?_ | refine Ap Y ?_ | refine Bf Y (fun h => ?_) (fun h => ?_)) | (show AW _ _ (.skip) _ _ _; refine Aj ?_; first | show AW _ _ _ _ _ _ | show ∃ x', _ < _ ∧ _) | (show AW _ _ (.block _ _) _ _ _; refine Af ?_; intro Q1) | (show AW _ _ (.exit _) _ _ _; refine As ?_; first | show AW _ _ _ _ _ _ | show ∃ x', _ < _ ∧ _) | (show AW _ _ (.ret) _ _ _; refine Av ?_; try dsimp only [A3, Ac, A7, Ag]) | fail)
        exact ⟨⟨q + 1, by omega⟩, by dsimp only; omega, .consW rfl (.int (by dsimp only; rw [hks]; try omega)) (.cons rfl (.cons rfl (.cons rfl (.nil _)))), keep_step (R' := []) (List.sublist_cons_self _ _) (List.nil_sublist _)⟩
    · rw [List.take_of_length_le (by omega)]
      repeat' (first
    | ((show AL _ _ _ _ _ _ _ _; refine Ae Y ?_); (first
      | refine Aq hG Y Y ?_
      | refine A5 hG Y Y ?_
      | (show AOp _ _ ⟨_, .call ⟨.builtin .len, _, _⟩, _, _, _, _⟩ _ _ _; first | refine Br hG Y Y Y Y ?_ | refine Bx hG Y Y Y Y Y ?_)
      | (show AOp _ _ ⟨_, .binOp .add _ _ _ _, _, _, _, _⟩ _ _ _; first | refine Ab hG Y Y Y Y Y (by omega) ?_ | refine Ab (m := 1) hG Y Y Y Y Y (by omega) ?_ | refine Aa hG Y Y Y Y Y (by omega) ?_)
      | (show AOp _ _ ⟨_, .binOp _ _ _ _ _, _, _, _, _⟩ _ _ _; first | refine Au hG Y Y Y Y Y (by omega) ?_ | refine At hG Y Y Y Y Y (by omega) ?_ | (refine Am hG Y Y Y Y Y (fun h => ?_) (fun h => ?_)) | refine Bl hG Y Y Y ?_ | refine Bv hG Y Y Y Y ?_)
      | (show AOp _ _ ⟨_, .load _ _, _, _, _, _⟩ _ _ _; first | refine A2 0 sbT hG Y Y Y Y Y (by omega) Y ?_ | refine A1 0 sbT hG Y Y Y Y Y (by omega) Y ?_ | refine A2 1 sbT hG Y Y Y Y Y (by omega) Y ?_ | refine A1 1 sbT hG Y Y Y Y Y (by omega) Y ?_ | refine A2 2 sbT hG Y Y Y Y Y (by omega) Y ?_ | refine A1 2 sbT hG Y Y Y Y Y (by omega) Y ?_ | refine A2 3 sbT hG Y Y Y Y Y (by omega) Y ?_ | refine A1 3 sbT hG Y Y Y Y Y (by omega) Y ?_ | refine Ak (α := UInt16) 0 hG Y Y Y Y (by omega) Y ?_ | refine Ak (α := UInt16) 1 hG Y Y Y Y (by omega) Y ?_ | refine Ay hG Y Y Y ?_ | refine A8 0 hG Y Y Y Y ?_ | refine A8 1 hG Y Y Y Y ?_ | refine A8 2 hG Y Y Y Y ?_)
      | (show AOp _ _ ⟨_, .indexAddr _ _ _, _, _, _, _⟩ _ _ _; first | refine Bw (sz := 4) hG Y Y Y Y Y Y Y (by omega) ?_ | refine A4 hG Y Y Y Y Y Y Y (by omega) ?_ | refine Az hG Y Y Y Y Y Y Y (by omega) ?_ | refine Ax hG Y Y Y Y Y Y Y (by omega) ?_ | refine Bb hG Y Y ?_)
      | (show AOp _ _ ⟨_, .alloc _, _, _, _, _⟩ _ _ _; refine B9 hG Y Y (fun i => ?_))
      | (show AOp _ _ ⟨_, .store _ _ _, _, _, _, _⟩ _ _ _; first | refine A0 (α := UInt16) 0 hG Y Y Y hT_cells hT_sc Y Y (by first | omega | (simp only [Array.size_setIfInBounds]; omega)) ?_ | refine A0 (α := UInt16) 1 hG Y Y Y hT_cells hT_sc Y Y (by first | omega | (simp only [Array.size_setIfInBounds]; omega)) ?_ | refine Bg 0 hG Y Y Y Y Y Y Y ?_ | refine Bg 1 hG Y Y Y Y Y Y Y ?_ | refine Bg 2 hG Y Y Y Y Y Y Y ?_)
      | refine r_q hG Y Y Y ?_))
    | (show AL _ _ _ _ _ _ _ _; first | refine Bj Y Y Y ?_ | (refine Ar ?_; first | show AW _ _ _ _ _ _ | show ∃ x', _ < _ ∧ _)) | (show AW _ _ (.seq _ _) _ _ _; refine Ah ?_; intro Q1) | (show AW _ _ (.region _ _ false) _ _ _; refine Ad ?_; intro O1) | (show AW _ _ (.cond _ _ _) _ _ _; first | refine Ao Y ?_ | refine Ap Y ?_ | refine Bf Y (fun h => ?_) (fun h => ?_)) | (show AW _ _ (.skip) _ _ _; refine Aj ?_; first | show AW _ _ _ _ _ _ | show ∃ x', _ < _ ∧ _) | (show AW _ _ (.block _ _) _ _ _; refine Af ?_; intro Q1) | (show AW _ _ (.exit _) _ _ _; refine As ?_; first | show AW _ _ _ _ _ _ | show ∃ x', _ < _ ∧ _) | (show AW _ _ (.ret) _ _ _; refine Av ?_; try dsimp only [A3, Ac, A7, Ag]) | fail)
      exact ret_onL (Bq rfl Bo) (.refl _) (.refl _) (.refl _) rfl ⟨rfl, rfl⟩
end Go.Proofs.Ythfgocinlbogeaa
namespace Go.Proofs.Ythfgocinlbogeaa
open Go.Ts
set_option linter.unusedSimpArgs false
set_option linter.unusedVariables false
set_option linter.unnecessarySimpa false
attribute [local irreducible] Go.Ts.AW Go.Ts.AOps Go.Ts.AL Go.Ts.AOp Go.Ts.ACalls Go.Ts.DL Go.Ts.DQ0 Go.Ts.EL
theorem arena_find_is (v : UInt8) (l : List SB) (at' : List (Nat × Int)) {id : Nat} {j : Int} (hk : khas at' id = true) (hj : klook at' id = j) (p ri m : Nat) : OnL Try.prog 65 [.ptr p 0, .int .u64 (id : Int)] (arL v l at' p ri m) (fun u L => u = .tup [.int .i64 j, .int .i64 0] ∧ L = arL v l at' p ri m) := by
  intro off
  refine Bp (N := 22) (rs := [.tmp 4, .tmp 5]) hG Try.func65 rfl rfl rfl rfl rfl ?_
  repeat' (first
    | ((show AL _ _ _ _ _ _ _ _; refine Ae Y ?_); (first
      | refine Aq hG Y Y ?_
      | refine A5 hG Y Y ?_
      | (show AOp _ _ ⟨_, .lookup _ _ _ _, _, _, _, _⟩ _ _ _; fail)
      | (show AOp _ _ ⟨_, .binOp _ _ _ _ _, _, _, _, _⟩ _ _ _; first | refine Bl hG Y Y Y ?_ | refine Bv hG Y Y Y Y ?_)
      | (show AOp _ _ ⟨_, .load _ _, _, _, _, _⟩ _ _ _; first | refine A2 0 sbT hG Y Y Y Y Y (by omega) Y ?_ | refine A1 0 sbT hG Y Y Y Y Y (by omega) Y ?_ | refine A2 1 sbT hG Y Y Y Y Y (by omega) Y ?_ | refine A1 1 sbT hG Y Y Y Y Y (by omega) Y ?_ | refine A2 2 sbT hG Y Y Y Y Y (by omega) Y ?_ | refine A1 2 sbT hG Y Y Y Y Y (by omega) Y ?_ | refine A2 3 sbT hG Y Y Y Y Y (by omega) Y ?_ | refine A1 3 sbT hG Y Y Y Y Y (by omega) Y ?_ | refine Ak (α := UInt16) 0 hG Y Y Y Y (by omega) Y ?_ | refine Ak (α := UInt16) 1 hG Y Y Y Y (by omega) Y ?_ | refine A8 0 hG Y Y Y Y ?_ | refine A8 1 hG Y Y Y Y ?_)
      | refine Bn hG Y Y Y ?_
      | refine r_q hG Y Y Y ?_))
    | (show AL _ _ _ _ _ _ _ _; first | refine Bj Y Y Y ?_ | (refine Ar ?_; first | show AW _ _ _ _ _ _ | show ∃ x', _ < _ ∧ _)) | (show AW _ _ (.seq _ _) _ _ _; refine Ah ?_; intro Q1) | (show AW _ _ (.region _ _ false) _ _ _; refine Ad ?_; intro O1) | (show AW _ _ (.cond _ _ _) _ _ _; first | refine Ao Y ?_ | refine Ap Y ?_ | refine Bf Y (fun h => ?_) (fun h => ?_)) | (show AW _ _ (.skip) _ _ _; refine Aj ?_; first | show AW _ _ _ _ _ _ | show ∃ x', _ < _ ∧ _) | (show AW _ _ (.ret) _ _ _; refine Av ?_; try dsimp only [A3, Ac, A7, Ag]) | fail)
  refine Ae rfl (r_lookLo (n := 1) hj hk hG rfl rfl rfl rfl rfl rfl rfl rfl rfl rfl ?_)
  repeat' (first
    | ((show AL _ _ _ _ _ _ _ _; refine Ae Y ?_); (first
      | refine Aq hG Y Y ?_
      | refine A5 hG Y Y ?_
      | (show AOp _ _ ⟨_, .lookup _ _ _ _, _, _, _, _⟩ _ _ _; first | refine r_lookF hG Y Y Y Y Y Y Y Y Y ?_ | refine r_lookFo hG Y Y Y Y Y Y Y Y Y ?_ | refine B8 (n := 0) hG Y Y Y Y Y Y Y Y Y Y ?_ | refine B8 (n := 1) hG Y Y Y Y Y Y Y Y Y Y ?_)
      | (show AOp _ _ ⟨_, .binOp _ _ _ _ _, _, _, _, _⟩ _ _ _; first | refine Bl hG Y Y Y ?_ | refine Bv hG Y Y Y Y ?_)
      | (show AOp _ _ ⟨_, .load _ _, _, _, _, _⟩ _ _ _; first | refine A2 0 sbT hG Y Y Y Y Y (by omega) Y ?_ | refine A1 0 sbT hG Y Y Y Y Y (by omega) Y ?_ | refine A2 1 sbT hG Y Y Y Y Y (by omega) Y ?_ | refine A1 1 sbT hG Y Y Y Y Y (by omega) Y ?_ | refine A2 2 sbT hG Y Y Y Y Y (by omega) Y ?_ | refine A1 2 sbT hG Y Y Y Y Y (by omega) Y ?_ | refine A2 3 sbT hG Y Y Y Y Y (by omega) Y ?_ | refine A1 3 sbT hG Y Y Y Y Y (by omega) Y ?_ | refine Ak (α := UInt16) 0 hG Y Y Y Y (by omega) Y ?_ | refine Ak (α := UInt16) 1 hG Y Y Y Y (by omega) Y ?_ | refine A8 0 hG Y Y Y Y ?_ | refine A8 1 hG Y Y Y Y ?_)
      | refine Bn hG Y Y Y ?_
      | refine r_q hG Y Y Y ?_))
    | (show AL _ _ _ _ _ _ _ _; first | refine Bj Y Y Y ?_ | (refine Ar ?_; first | show AW _ _ _ _ _ _ | show ∃ x', _ < _ ∧ _)) | (show AW _ _ (.seq _ _) _ _ _; refine Ah ?_; intro Q1) | (show AW _ _ (.region _ _ false) _ _ _; refine Ad ?_; intro O1) | (show AW _ _ (.cond _ _ _) _ _ _; first | refine Ao Y ?_ | refine Ap Y ?_ | refine Bf Y (fun h => ?_) (fun h => ?_)) | (show AW _ _ (.skip) _ _ _; refine Aj ?_; first | show AW _ _ _ _ _ _ | show ∃ x', _ < _ ∧ _) | (show AW _ _ (.ret) _ _ _; refine Av ?_; try dsimp only [A3, Ac, A7, Ag]) | fail)
  exact ret_onL (Bq rfl (Bq rfl Bo)) (.refl _) (.refl _) (.refl _) rfl ⟨rfl, rfl⟩
theorem arena_Get_is (v : UInt8) (l : List SB) (at' : List (Nat × Int)) {id j : Nat} (hk : khas at' id = true) (hj : klook at' id = ((j : Nat) : Int)) (hjl : j < l.length) (ht : (l.getD j default).taken = true) (hb : (l.getD j default).bs.length ≤ 1000000) (p ri m : Nat) :
    OnL Try.prog 41 [.ptr p 0, .int .u64 (id : Int)] (arL v l at' p ri m) (fun u L => u = .tup [sT (l.getD j default).bs, .int .i64 0] ∧ L = arL v l at' p ri m) := by
  have hf := And.intro (arena_find_is v l at' hk hj p ri m) (List.Perm.of_eq (List.append_nil (arL v l at' p ri m)).symm)
  have hc := clone_p (b := (l.getD j default).bs) (by omega)
  have hne : l ≠ [] := by intro h; subst h; simp at hjl
  have hA : arL v l at' p ri m = [(p, .cells [bT v, .aref 4 ri 0 l.length none, .map (some m)]), (m, .map (at'.map kvT)), (ri, .cells (flat (l.map sbT)))] := by
    unfold arL; rw [slT_ne hne, rowOf_ne hne]
  have hrec : recT (l.getD j default) = sT (l.getD j default).bs := by unfold recT; rw [ht]; rfl
  rw [hA] at hf ⊢
  intro off
  refine Bp (N := 26) (rs := [.tmp 4, .tmp 5]) hG Try.func41 rfl rfl rfl rfl rfl ?_
  repeat' (first
    | ((show AL _ _ _ _ _ _ _ _; refine Ae Y ?_); (first
      | refine Aq hG Y Y ?_
      | refine A5 hG Y Y ?_
      | (show AOp _ _ ⟨_, .binOp _ _ _ _ _, _, _, _, _⟩ _ _ _; first | refine Au hG Y Y Y Y Y (by omega) ?_ | refine At hG Y Y Y Y Y (by omega) ?_ | (refine Am hG Y Y Y Y Y (fun h => ?_) (fun h => ?_)) | refine Bv hG Y Y Y Y ?_)
      | (show AOp _ _ ⟨_, .load _ _, _, _, _, _⟩ _ _ _; first | refine A2 0 sbT hG Y Y Y Y Y (by omega) Y ?_ | refine A1 0 sbT hG Y Y Y Y Y (by omega) Y ?_ | refine A2 1 sbT hG Y Y Y Y Y (by omega) Y ?_ | refine A1 1 sbT hG Y Y Y Y Y (by omega) Y ?_ | refine A2 2 sbT hG Y Y Y Y Y (by omega) Y ?_ | refine A1 2 sbT hG Y Y Y Y Y (by omega) Y ?_ | refine A2 3 sbT hG Y Y Y Y Y (by omega) Y ?_ | refine A1 3 sbT hG Y Y Y Y Y (by omega) Y ?_ | refine Ak (α := UInt16) 0 hG Y Y Y Y (by omega) Y ?_ | refine Ak (α := UInt16) 1 hG Y Y Y Y (by omega) Y ?_ | refine Ay hG Y Y Y ?_ | refine A8 0 hG Y Y Y Y ?_ | refine A8 1 hG Y Y Y Y ?_)
      | (show AOp _ _ ⟨_, .indexAddr _ _ _, _, _, _, _⟩ _ _ _; first | refine Bw (sz := 4) hG Y Y Y Y Y Y Y (by omega) ?_ | refine A4 hG Y Y Y Y Y Y Y (by omega) ?_ | refine Az hG Y Y Y Y Y Y Y (by omega) ?_ | refine Ax hG Y Y Y Y Y Y Y (by omega) ?_ | refine Bb hG Y Y ?_)
      | (show AOp _ _ ⟨_, .call ⟨.value _, _, _⟩, _, _, _, _⟩ _ _ _; first | refine r_onS Y Y Y Y hf.1 hf.2 ?_ | fail)
      | refine r_q hG Y Y Y ?_))
    | (show AL _ _ _ _ _ _ _ _; first | refine Bj Y Y Y ?_ | (refine Ar ?_; first | show AW _ _ _ _ _ _ | show ∃ x', _ < _ ∧ _)) | (show AW _ _ (.seq _ _) _ _ _; refine Ah ?_; intro Q1) | (show AW _ _ (.region _ _ false) _ _ _; refine Ad ?_; intro O1) | (show AW _ _ (.cond _ _ _) _ _ _; first | refine Ao Y ?_ | refine Ap Y ?_ | refine Bf Y (fun h => ?_) (fun h => ?_)) | (show AW _ _ (.skip) _ _ _; refine Aj ?_; first | show AW _ _ _ _ _ _ | show ∃ x', _ < _ ∧ _) | (show AW _ _ (.ret) _ _ _; refine Av ?_; try dsimp only [A3, Ac, A7, Ag]) | fail)
  refine al_slot 24 rfl (u := sT (l.getD j default).bs) (.eq hrec) ?_
  repeat' (first
    | ((show AL _ _ _ _ _ _ _ _; refine Ae Y ?_); (first
      | refine Aq hG Y Y ?_
      | refine A5 hG Y Y ?_
      | (show AOp _ _ ⟨_, .binOp _ _ _ _ _, _, _, _, _⟩ _ _ _; first | refine Au hG Y Y Y Y Y (by omega) ?_ | refine At hG Y Y Y Y Y (by omega) ?_ | (refine Am hG Y Y Y Y Y (fun h => ?_) (fun h => ?_)) | refine Bv hG Y Y Y Y ?_)
      | (show AOp _ _ ⟨_, .load _ _, _, _, _, _⟩ _ _ _; first | refine A2 0 sbT hG Y Y Y Y Y (by omega) Y ?_ | refine A1 0 sbT hG Y Y Y Y Y (by omega) Y ?_ | refine A2 1 sbT hG Y Y Y Y Y (by omega) Y ?_ | refine A1 1 sbT hG Y Y Y Y Y (by omega) Y ?_ | refine A2 2 sbT hG Y Y Y Y Y (by omega) Y ?_ | refine A1 2 sbT hG Y Y Y Y Y (by omega) Y ?_ | refine A2 3 sbT hG Y Y Y Y Y (by omega) Y ?_ | refine A1 3 sbT hG Y Y Y Y Y (by omega) Y ?_ | refine Ak (α := UInt16) 0 hG Y Y Y Y (by omega) Y ?_ | refine Ak (α := UInt16) 1 hG Y Y Y Y (by omega) Y ?_ | refine Ay hG Y Y Y ?_ | refine A8 0 hG Y Y Y Y ?_ | refine A8 1 hG Y Y Y Y ?_)
      | (show AOp _ _ ⟨_, .indexAddr _ _ _, _, _, _, _⟩ _ _ _; first | refine Bw (sz := 4) hG Y Y Y Y Y Y Y (by omega) ?_ | refine A4 hG Y Y Y Y Y Y Y (by omega) ?_ | refine Az hG Y Y Y Y Y Y Y (by omega) ?_ | refine Ax hG Y Y Y Y Y Y Y (by omega) ?_ | refine Bb hG Y Y ?_)
      | (show AOp _ _ ⟨_, .call ⟨.value _, _, _⟩, _, _, _, _⟩ _ _ _; first | refine B0 Y Y Y Y Y (by first | (apply hc <;> (first | assumption | omega | exact Ba _ _ | exact Bi _ | exact Bk _ _ | exact Bs _ | rfl | (simp; omega))) | fail) ?_ | fail)
      | refine r_q hG Y Y Y ?_))
    | (show AL _ _ _ _ _ _ _ _; first | refine Bj Y Y Y ?_ | (refine Ar ?_; first | show AW _ _ _ _ _ _ | show ∃ x', _ < _ ∧ _)) | (show AW _ _ (.seq _ _) _ _ _; refine Ah ?_; intro Q1) | (show AW _ _ (.region _ _ false) _ _ _; refine Ad ?_; intro O1) | (show AW _ _ (.cond _ _ _) _ _ _; first | refine Ao Y ?_ | refine Ap Y ?_ | refine Bf Y (fun h => ?_) (fun h => ?_)) | (show AW _ _ (.skip) _ _ _; refine Aj ?_; first | show AW _ _ _ _ _ _ | show ∃ x', _ < _ ∧ _) | (show AW _ _ (.ret) _ _ _; refine Av ?_; try dsimp only [A3, Ac, A7, Ag]) | fail)
  exact ret_onL (Bq rfl (Bq rfl Bo)) (.refl _) (.refl _) (.refl _) rfl ⟨rfl, rfl⟩
def stepB (l : List SB) (at' : List (Nat × Int)) (out : List UInt8) (id : Nat) : List UInt8 := putBs (out ++ putI (id : Int) 8) (l.getD (klook at' id).toNat default).bs
def bytesA (l : List SB) (at' : List (Nat × Int)) : List UInt8 := (idsA l).foldl (stepB l at') []
structure ByX (r : List Nat) where
  i : Nat
  hi : i ≤ r.length
theorem idsA_len (l : List SB) : (idsA l).length ≤ l.length := by
  unfold idsA namesOf
  rw [srtL_len, List.length_map]
  exact List.length_filter_le _ _
theorem idsA_lt (l : List SB) : ∀ id ∈ idsA l, id < 18446744073709551616 := by
  intro id hid
  obtain ⟨s, _, rfl⟩ := List.mem_map.1 ((srtL_spec _).1.mem_iff.1 hid)
  exact s.hid
theorem foldB_len {l : List SB} {at' : List (Nat × Int)} (hb : ∀ s ∈ l, s.bs.length ≤ 60000) : ∀ (r : List Nat) (out : List UInt8), (r.foldl (stepB l at') out).length ≤ out.length + r.length * 70000
  | [], out => by simp
  | id :: r, out => by
    have h1 := foldB_len (at' := at') hb r (stepB l at' out id)
    have h2 : (stepB l at' out id).length ≤ out.length + 70000 := by
      unfold stepB putBs
      have h3 : (l.getD (klook at' id).toNat default).bs.length ≤ 60000 := by
        rcases Nat.lt_or_ge (klook at' id).toNat l.length with h | h
        · exact hb _ (by simp [List.getD, h])
        · simp [List.getD, List.getElem?_eq_none h, show (default : SB).bs = [] from rfl]
      have h4 := putI_le (id : Int) 8
      have h5 := putI_le ((l.getD (klook at' id).toNat default).bs.length : Int) 2
      simp only [List.length_append]; omega
    rw [List.foldl_cons, List.length_cons]; omega
set_option maxHeartbeats 1000000 in
theorem arena_Bytes (v : UInt8) (l : List SB) (at' : List (Nat × Int)) (hl : l.length ≤ 255) (hb : ∀ s ∈ l, s.bs.length ≤ 60000) (hw : ∀ id ∈ idsA l, ∃ j : Nat, klook at' id = (j : Int) ∧ j < l.length ∧ (l.getD j default).taken = true) (p ri m : Nat) :
    OnL Try.prog 34 [.ptr p 0] (arL v l at' p ri m) (fun u L => u = sT (bytesA l at') ∧ L = arL v l at' p ri m) := by
  have hI := And.intro (arena_IDs v l at' hl p ri m) (List.Perm.of_eq (List.append_nil (arL v l at' p ri m)).symm)
  have hR : bytesA l at' = (idsA l).foldl (stepB l at') [] := rfl
  have hlt := idsA_lt l
  have hrl := idsA_len l
  rw [hR]
  clear hR
  generalize idsA l = r at *
  intro off
  refine Bp (N := 32) (rs := [.tmp 2]) hG Try.func34 rfl rfl rfl rfl rfl ?_
  repeat' (first
    | ((first | (show AL _ _ _ _ _ _ _ _; refine Ae Y ?_) | (show DL _ _ _ _ _ _ _; refine' A6 Y Y (fun K kk => ?_) ?_; try (show Go.Ts.T; rotate_left))); (first
      | refine Aq hG Y Y ?_
      | refine A5 hG Y Y ?_
      | (show AOp _ _ ⟨_, .call ⟨.builtin .len, _, _⟩, _, _, _, _⟩ _ _ _; first | refine Br hG Y Y Y Y ?_ | refine Bx hG Y Y Y Y Y ?_)
      | (show AOp _ _ ⟨_, .lookup _ _ _ _, _, _, _, _⟩ _ _ _; first | refine r_lookF hG Y Y Y Y Y Y Y Y Y ?_ | refine r_lookFo hG Y Y Y Y Y Y Y Y Y ?_ | refine B8 (n := 0) hG Y Y Y Y Y Y Y Y Y Y ?_ | refine B8 (n := 1) hG Y Y Y Y Y Y Y Y Y Y ?_)
      | (show AOp _ _ ⟨_, .binOp .add _ _ _ _, _, _, _, _⟩ _ _ _; first | refine Ab hG Y Y Y Y Y (by omega) ?_ | refine Ab (m := 1) hG Y Y Y Y Y (by omega) ?_ | refine Aa hG Y Y Y Y Y (by omega) ?_)
      | (show AOp _ _ ⟨_, .binOp _ _ _ _ _, _, _, _, _⟩ _ _ _; first | refine Au hG Y Y Y Y Y (by omega) ?_ | refine At hG Y Y Y Y Y (by omega) ?_ | ((fail_if_success have := kk); refine Am hG Y Y Y Y Y (fun h => ?_) (fun h => ?_)) | refine Bv hG Y Y Y Y ?_)
      | (show AOp _ _ ⟨_, .load _ _, _, _, _, _⟩ _ _ _; first | refine A2 0 sbT hG Y Y Y Y Y (by omega) Y ?_ | refine A1 0 sbT hG Y Y Y Y Y (by omega) Y ?_ | refine A2 1 sbT hG Y Y Y Y Y (by omega) Y ?_ | refine A1 1 sbT hG Y Y Y Y Y (by omega) Y ?_ | refine A2 2 sbT hG Y Y Y Y Y (by omega) Y ?_ | refine A1 2 sbT hG Y Y Y Y Y (by omega) Y ?_ | refine A2 3 sbT hG Y Y Y Y Y (by omega) Y ?_ | refine A1 3 sbT hG Y Y Y Y Y (by omega) Y ?_ | refine Ak (α := UInt16) 0 hG Y Y Y Y (by omega) Y ?_ | refine Ak (α := UInt16) 1 hG Y Y Y Y (by omega) Y ?_ | refine Ay hG Y Y Y ?_ | refine A8 0 hG Y Y Y Y ?_ | refine A8 1 hG Y Y Y Y ?_)
      | (show AOp _ _ ⟨_, .indexAddr _ _ _, _, _, _, _⟩ _ _ _; first | refine Bw (sz := 4) hG Y Y Y Y Y Y Y (by omega) ?_ | refine A4 hG Y Y Y Y Y Y Y (by omega) ?_ | refine Az hG Y Y Y Y Y Y Y (by omega) ?_ | refine Ax hG Y Y Y Y Y Y Y (by omega) ?_ | refine Bb hG Y Y ?_)
      | (show AOp _ _ ⟨_, .call ⟨.value _, _, _⟩, _, _, _, _⟩ _ _ _; first | refine r_onS Y Y Y Y hI.1 hI.2 ?_ | fail)
      | refine r_q hG Y Y Y ?_); try exact kk)
    | (show AL _ _ _ _ _ _ _ _; first | refine Bj Y Y Y ?_ | (refine Ar ?_; first | show AW _ _ _ _ _ _ | show ∃ x', _ < _ ∧ _)) | (show AW _ _ (.seq _ _) _ _ _; refine Ah ?_; intro Q1) | (show AW _ _ (.region _ _ false) _ _ _; refine Ad ?_; intro O1) | (show AW _ _ (.cond _ _ _) _ _ _; first | refine Ao Y ?_ | refine Ap Y ?_ | refine Bf Y (fun h => ?_) (fun h => ?_)) | (show AW _ _ (.skip) _ _ _; refine Aj ?_; first | show AW _ _ _ _ _ _ | show ∃ x', _ < _ ∧ _) | (show AW _ _ (.block _ _) _ _ _; refine Af ?_; intro Q1) | (show AW _ _ (.exit _) _ _ _; refine As ?_; first | show AW _ _ _ _ _ _ | show ∃ x', _ < _ ∧ _) | (show AW _ _ (.ret) _ _ _; refine Av ?_; try dsimp only [A3, Ac, A7, Ag])
    | (show DL _ _ _ _ _ _ _; refine Bt Y Y (fun K kt kf => Am hG Y Y Y Y Y kt kf) (fun h => ?_) (fun h => ?_))
    | (show DL _ _ _ _ _ _ _; refine Bu Y Y Y ?_) | (show DL _ _ _ _ _ _ _; refine Bd ?_; first | show AW _ _ _ _ _ _ | show ∃ x', _ < _ ∧ _) | (show AW _ _ (.region _ _ true) _ _ _; refine Aw mix (by kernel_rfl) ?_; intro O1) | fail)
  refine aw_loop (X := ByX r) (fun x => [(0, .ptr p 0), (3, .sl 1 .no (((r.take x.i).foldl (stepB l at') []).map bT)), (7, .sl 1 .no (r.map mT)), (8, .int .i64 (r.length : Int)), (9, .int .i64 (x.i : Int))]) (fun x => ⟨arL v l at' p ri m, [], off, none⟩) (fun x => r.length - x.i) ⟨0, Nat.zero_le _⟩ (.cons rfl (.consW rfl (.nil 1) (.cons rfl (.cons rfl (.cons rfl (.nil _)))))) (.refl _) ?_
  rintro ⟨q, hi⟩
  dsimp only
  by_cases hil : q < r.length
  · have hks : (r.take (q + 1)).foldl (stepB l at') [] = stepB l at' ((r.take q).foldl (stepB l at') []) (r.getD q default) := by
      rw [List.take_add_one, List.foldl_append]
      simp [hil, List.getD]
    have hol := foldB_len (at' := at') hb (r.take q) []
    rw [List.length_take, List.length_nil] at hol
    have hid := hlt (r.getD q default) (by simp [List.getD, hil])
    obtain ⟨j, hj, hjl, ht⟩ := hw (r.getD q default) (by simp [List.getD, hil])
    generalize (r.take q).foldl (stepB l at') [] = out at *
    have hst : stepB l at' out (r.getD q default) = putBs (out ++ putI ((r.getD q default : Nat) : Int) 8) (l.getD j default).bs := by
      unfold stepB; rw [hj, Int.toNat_natCast]
    rw [hst] at hks
    have hne : l ≠ [] := by intro h; subst h; simp at hjl
    have hA : arL v l at' p ri m = [(p, .cells [bT v, .aref 4 ri 0 l.length none, .map (some m)]), (m, .map (at'.map kvT)), (ri, .cells (flat (l.map sbT)))] := by
      unfold arL; rw [slT_ne hne, rowOf_ne hne]
    have hrec : recT (l.getD j default) = sT (l.getD j default).bs := by unfold recT; rw [ht]; rfl
    have h1 := (num_Put (x := .sl 1 .no (out.map bT)) (b := out) (v := ((r.getD q default : Nat) : Int)) (n := 8) (Ba _ _) (by omega) (by omega)).pure
    have h4 := putI_le ((r.getD q default : Nat) : Int) 8
    have h5 : (l.getD j default).bs.length ≤ 60000 := hb _ (by simp [List.getD, hjl])
    have h2 := (num_PutBytes (x := .sl 1 .no ((out ++ putI ((r.getD q default : Nat) : Int) 8).map bT)) (y := recT (l.getD j default)) (b := out ++ putI ((r.getD q default : Nat) : Int) 8) (s := (l.getD j default).bs) (Ba _ _) (by rw [hrec]; exact Bi _) (by simp only [List.length_append]; omega) (by omega)).pure
    rw [hA]
    repeat' (first
    | ((first | (show AL _ _ _ _ _ _ _ _; refine Ae Y ?_) | (show DL _ _ _ _ _ _ _; refine' A6 Y Y (fun K kk => ?_) ?_; try (show Go.Ts.T; rotate_left))); (first
      | refine Aq hG Y Y ?_
      | refine A5 hG Y Y ?_
      | (show AOp _ _ ⟨_, .call ⟨.builtin .len, _, _⟩, _, _, _, _⟩ _ _ _; first | refine Br hG Y Y Y Y ?_ | refine Bx hG Y Y Y Y Y ?_)
      | (show AOp _ _ ⟨_, .lookup _ _ _ _, _, _, _, _⟩ _ _ _; first | refine r_lookLv (n := 1) hj hG Y Y Y Y Y Y Y Y Y Y ?_ | refine r_lookLv (n := 0) hj hG Y Y Y Y Y Y Y Y Y Y ?_ | refine r_lookF hG Y Y Y Y Y Y Y Y Y ?_ | refine r_lookFo hG Y Y Y Y Y Y Y Y Y ?_ | refine B8 (n := 0) hG Y Y Y Y Y Y Y Y Y Y ?_ | refine B8 (n := 1) hG Y Y Y Y Y Y Y Y Y Y ?_)
      | (show AOp _ _ ⟨_, .binOp .add _ _ _ _, _, _, _, _⟩ _ _ _; first | refine Ab hG Y Y Y Y Y (by omega) ?_ | refine Ab (m := 1) hG Y Y Y Y Y (by omega) ?_ | refine Aa hG Y Y Y Y Y (by omega) ?_)
      | (show AOp _ _ ⟨_, .binOp _ _ _ _ _, _, _, _, _⟩ _ _ _; first | refine Au hG Y Y Y Y Y (by omega) ?_ | refine At hG Y Y Y Y Y (by omega) ?_ | ((fail_if_success have := kk); refine Am hG Y Y Y Y Y (fun h => ?_) (fun h => ?_)) | refine Bv hG Y Y Y Y ?_)
      | (show AOp _ _ ⟨_, .load _ _, _, _, _, _⟩ _ _ _; first | refine A2 0 sbT hG Y Y Y Y Y (by omega) Y ?_ | refine A1 0 sbT hG Y Y Y Y Y (by omega) Y ?_ | refine A2 1 sbT hG Y Y Y Y Y (by omega) Y ?_ | refine A1 1 sbT hG Y Y Y Y Y (by omega) Y ?_ | refine A2 2 sbT hG Y Y Y Y Y (by omega) Y ?_ | refine A1 2 sbT hG Y Y Y Y Y (by omega) Y ?_ | refine A2 3 sbT hG Y Y Y Y Y (by omega) Y ?_ | refine A1 3 sbT hG Y Y Y Y Y (by omega) Y ?_ | refine Ak (α := UInt16) 0 hG Y Y Y Y (by omega) Y ?_ | refine Ak (α := UInt16) 1 hG Y Y Y Y (by omega) Y ?_ | refine Ay hG Y Y Y ?_ | refine A8 0 hG Y Y Y Y ?_ | refine A8 1 hG Y Y Y Y ?_)
      | (show AOp _ _ ⟨_, .indexAddr _ _ _, _, _, _, _⟩ _ _ _; first | refine Bw (sz := 4) hG Y Y Y Y Y Y Y (by omega) ?_ | refine A4 hG Y Y Y Y Y Y Y (by omega) ?_ | refine Az hG Y Y Y Y Y Y Y (by omega) ?_ | refine Ax hG Y Y Y Y Y Y Y (by omega) ?_ | refine Bb hG Y Y ?_)
      | (show AOp _ _ ⟨_, .call ⟨.value _, _, _⟩, _, _, _, _⟩ _ _ _; first | refine B0 Y Y Y Y Y (by first | (apply h1 <;> (first | assumption | omega | exact Ba _ _ | exact Bi _ | exact Bk _ _ | exact Bs _ | rfl | (simp; omega))) | fail) ?_ | refine B0 Y Y Y Y Y (by first | (apply h2 <;> (first | assumption | omega | exact Ba _ _ | exact Bi _ | exact Bk _ _ | exact Bs _ | rfl | (simp; omega))) | fail) ?_ | fail)
      | refine r_q hG Y Y Y ?_); try exact kk)
    | (show AL _ _ _ _ _ _ _ _; first | refine Bj Y Y Y ?_ | (refine Ar ?_; first | show AW _ _ _ _ _ _ | show ∃ x', _ < _ ∧ _)) | (show AW _ _ (.seq _ _) _ _ _; refine Ah ?_; intro Q1) | (show AW _ _ (.region _ _ false) _ _ _; refine Ad ?_; intro O1) | (show AW _ _ (.cond _ _ _) _ _ _; first | refine Ao Y ?_ | refine Ap Y ?_ | refine Bf Y (fun h => ?_) (fun h => ?_)) | (show AW _ _ (.skip) _ _ _; refine Aj ?_; first | show AW _ _ _ _ _ _ | show ∃ x', _ < _ ∧ _) | (show AW _ _ (.block _ _) _ _ _; refine Af ?_; intro Q1) | (show AW _ _ (.exit _) _ _ _; refine As ?_; first | show AW _ _ _ _ _ _ | show ∃ x', _ < _ ∧ _) | (show AW _ _ (.ret) _ _ _; refine Av ?_; try dsimp only [A3, Ac, A7, Ag])
    | (show DL _ _ _ _ _ _ _; refine Bt Y Y (fun K kt kf => Am hG Y Y Y Y Y kt kf) (fun h => ?_) (fun h => ?_))
    | (show DL _ _ _ _ _ _ _; refine Bu Y Y Y ?_) | (show DL _ _ _ _ _ _ _; refine Bd ?_; first | show AW _ _ _ _ _ _ | show ∃ x', _ < _ ∧ _) | (show AW _ _ (.region _ _ true) _ _ _; refine Aw mix (by kernel_rfl) ?_; intro O1) | fail)
    exact ⟨⟨q + 1, by omega⟩, by dsimp only; omega, .cons rfl (.consW rfl (.eq (by dsimp only; rw [hks])) (.cons rfl (.cons rfl (.cons rfl (.nil _))))), .refl _⟩
  · rw [List.take_of_length_le (by omega)]
    repeat' (first
    | ((first | (show AL _ _ _ _ _ _ _ _; refine Ae Y ?_) | (show DL _ _ _ _ _ _ _; refine' A6 Y Y (fun K kk => ?_) ?_; try (show Go.Ts.T; rotate_left))); (first
      | refine Aq hG Y Y ?_
      | refine A5 hG Y Y ?_
      | (show AOp _ _ ⟨_, .call ⟨.builtin .len, _, _⟩, _, _, _, _⟩ _ _ _; first | refine Br hG Y Y Y Y ?_ | refine Bx hG Y Y Y Y Y ?_)
      | (show AOp _ _ ⟨_, .lookup _ _ _ _, _, _, _, _⟩ _ _ _; first | refine r_lookF hG Y Y Y Y Y Y Y Y Y ?_ | refine r_lookFo hG Y Y Y Y Y Y Y Y Y ?_ | refine B8 (n := 0) hG Y Y Y Y Y Y Y Y Y Y ?_ | refine B8 (n := 1) hG Y Y Y Y Y Y Y Y Y Y ?_)
      | (show AOp _ _ ⟨_, .binOp .add _ _ _ _, _, _, _, _⟩ _ _ _; first | refine Ab hG Y Y Y Y Y (by omega) ?_ | refine Ab (m := 1) hG Y Y Y Y Y (by omega) ?_ | refine Aa hG Y Y Y Y Y (by omega) ?_)
      | (show AOp _ _ ⟨_, .binOp _ _ _ _ _, _, _, _, _⟩ _ _ _; first | refine Au hG Y Y Y Y Y (by omega) ?_ | refine At hG Y Y Y Y Y (by omega) ?_ | ((fail_if_success have := kk); refine Am hG Y Y Y Y Y (fun h => ?_) (fun h => ?_)) | refine Bv hG Y Y Y Y ?_)
      | (show AOp _ _ ⟨_, .load _ _, _, _, _, _⟩ _ _ _; first | refine A2 0 sbT hG Y Y Y Y Y (by omega) Y ?_ | refine A1 0 sbT hG Y Y Y Y Y (by omega) Y ?_ | refine A2 1 sbT hG Y Y Y Y Y (by omega) Y ?_ | refine A1 1 sbT hG Y Y Y Y Y (by omega) Y ?_ | refine A2 2 sbT hG Y Y Y Y Y (by omega) Y ?_ | refine A1 2 sbT hG Y Y Y Y Y (by omega) Y ?_ | refine A2 3 sbT hG Y Y Y Y Y (by omega) Y ?_ | refine A1 3 sbT hG Y Y Y Y Y (by omega) Y ?_ | refine Ak (α := UInt16) 0 hG Y Y Y Y (by omega) Y ?_ | refine Ak (α := UInt16) 1 hG Y Y Y Y (by omega) Y ?_ | refine Ay hG Y Y Y ?_ | refine A8 0 hG Y Y Y Y ?_ | refine A8 1 hG Y Y Y Y ?_)
      | (show AOp _ _ ⟨_, .indexAddr _ _ _, _, _, _, _⟩ _ _ _; first | refine Bw (sz := 4) hG Y Y Y Y Y Y Y (by omega) ?_ | refine A4 hG Y Y Y Y Y Y Y (by omega) ?_ | refine Az hG Y Y Y Y Y Y Y (by omega) ?_ | refine Ax hG Y Y Y Y Y Y Y (by omega) ?_ | refine Bb hG Y Y ?_)
      | refine r_q hG Y Y Y ?_); try exact kk)
    | (show AL _ _ _ _ _ _ _ _; first | refine Bj Y Y Y ?_ | (refine Ar ?_; first | show AW _ _ _ _ _ _ | show ∃ x', _ < _ ∧ _)) | (show AW _ _ (.seq _ _) _ _ _; refine Ah ?_; intro Q1) | (show AW _ _ (.region _ _ false) _ _ _; refine Ad ?_; intro O1) | (show AW _ _ (.cond _ _ _) _ _ _; first | refine Ao Y ?_ | refine Ap Y ?_ | refine Bf Y (fun h => ?_) (fun h => ?_)) | (show AW _ _ (.skip) _ _ _; refine Aj ?_; first | show AW _ _ _ _ _ _ | show ∃ x', _ < _ ∧ _) | (show AW _ _ (.block _ _) _ _ _; refine Af ?_; intro Q1) | (show AW _ _ (.exit _) _ _ _; refine As ?_; first | show AW _ _ _ _ _ _ | show ∃ x', _ < _ ∧ _) | (show AW _ _ (.ret) _ _ _; refine Av ?_; try dsimp only [A3, Ac, A7, Ag])
    | (show DL _ _ _ _ _ _ _; refine Bt Y Y (fun K kt kf => Am hG Y Y Y Y Y kt kf) (fun h => ?_) (fun h => ?_))
    | (show DL _ _ _ _ _ _ _; refine Bu Y Y Y ?_) | (show DL _ _ _ _ _ _ _; refine Bd ?_; first | show AW _ _ _ _ _ _ | show ∃ x', _ < _ ∧ _) | (show AW _ _ (.region _ _ true) _ _ _; refine Aw mix (by kernel_rfl) ?_; intro O1) | fail)
    exact ret_onL (Bq rfl Bo) (.refl _) (.refl _) (.refl _) rfl ⟨rfl, rfl⟩
end Go.Proofs.Ythfgocinlbogeaa
namespace Go.Proofs.Ythfgocinlbogeaa
open Go.Ts
set_option linter.unusedSimpArgs false
set_option linter.unusedVariables false
set_option linter.unnecessarySimpa false
structure WFA (l : List SB) (at' : List (Nat × Int)) : Prop where
  a : ∀ j, j < l.length → (l.getD j default).taken = true → khas at' (l.getD j default).id = true ∧ klook at' (l.getD j default).id = ((j : Nat) : Int)
  b : ∀ id, khas at' id = true → ∃ j : Nat, klook at' id = (j : Int) ∧ j < l.length ∧ (l.getD j default).taken = true ∧ (l.getD j default).id = id
theorem khas_kset (m : List (Nat × Int)) (k : Nat) (v : Int) (k' : Nat) : khas (kset m k v) k' = (decide (k' = k) || khas m k') := by
  have h : ∀ (m : List (Nat × Int)) (k : Nat), khas m k = decide (k ∈ m.map (·.1)) := fun m k => by
    have := khas_iff (k := k) m 0
    unfold khas
    cases h1 : (kfind k m 0).isSome with
    | true => rw [h1] at this; rw [decide_eq_true (this.1 rfl)]
    | false => rw [h1] at this; rw [decide_eq_false (fun h2 => by have := this.2 h2; cases this)]
  rw [h, h, keys_kset]
  split
  · rename_i h1
    by_cases h2 : k' = k
    · subst h2; simp [h1]
    · simp [h2]
  · by_cases h2 : k' = k <;> simp [h2]
theorem getD_set {l : List SB} {j k : Nat} {s : SB} (hk : k < l.length) : (l.set j s).getD k default = if j = k then s else l.getD k default := by
  simp only [List.getD, List.getElem?_set]
  by_cases h : j = k
  · subst h; simp [hk]
  · simp [h]
theorem wfa_nil : WFA [] [] := ⟨fun j hj => by simp at hj, fun id h => by simp [khas, kfind] at h⟩
theorem wfa_old {l : List SB} {at' : List (Nat × Int)} (h : WFA l at') {id j : Nat} (hk : khas at' id = true) (hj : klook at' id = ((j : Nat) : Int)) (s : SB) (hs : s.taken = true ∧ s.id = id) : WFA (l.set j s) at' := by
  obtain ⟨j', h1, h2, h3, h4⟩ := h.b id hk
  obtain rfl : j = j' := by omega
  refine ⟨fun k hk' ht => ?_, fun id' hk' => ?_⟩
  · rw [List.length_set] at hk'
    rw [getD_set hk'] at ht ⊢
    by_cases e : j = k
    · subst e; rw [if_pos rfl] at ht ⊢; rw [hs.2]; exact ⟨hk, hj⟩
    · rw [if_neg e] at ht ⊢; exact h.a k hk' ht
  · obtain ⟨k, g1, g2, g3, g4⟩ := h.b id' hk'
    refine ⟨k, g1, by rw [List.length_set]; exact g2, ?_⟩
    rw [getD_set g2]
    by_cases e : j = k
    · subst e; rw [if_pos rfl]; exact ⟨hs.1, by rw [hs.2, ← h4, g4]⟩
    · rw [if_neg e]; exact ⟨g3, g4⟩
theorem freeI_free : ∀ (l : List SB) (i : Nat), 0 ≤ freeI l i → ∃ k, freeI l i = ((i + k : Nat) : Int) ∧ k < l.length ∧ (l.getD k default).taken = false
  | [], i, h => by simp [freeI] at h
  | s :: l, i, h => by
    rw [freeI] at h ⊢
    split
    · rename_i h1
      rw [if_pos h1] at h
      obtain ⟨k, g1, g2, g3⟩ := freeI_free l (i + 1) h
      exact ⟨k + 1, by rw [g1]; omega, by simpa using g2, by simpa [List.getD] using g3⟩
    · rename_i h1
      exact ⟨0, by simp, by simp, by simpa [List.getD] using h1⟩
theorem flS_spec (l : List SB) : ((flS l).getD (fidx l) default).taken = false ∧ (∀ k, k < (flS l).length → k ≠ fidx l → k < l.length ∧ (flS l).getD k default = l.getD k default) ∧ (∀ k, k < l.length → k < (flS l).length ∧ (flS l).getD k default = l.getD k default) := by
  unfold flS fidx
  by_cases h : freeI l 0 < 0
  · rw [if_pos h, if_pos h]
    refine ⟨by simp [List.getD, show (default : SB).taken = false from rfl], fun k hk hne => ?_, fun k hk => ?_⟩
    · rw [List.length_append, List.length_singleton] at hk
      have : k < l.length := by omega
      exact ⟨this, by simp only [List.getD]; rw [List.getElem?_append_left this]⟩
    · exact ⟨by rw [List.length_append]; omega, by simp only [List.getD]; rw [List.getElem?_append_left hk]⟩
  · rw [if_neg h, if_neg h]
    obtain ⟨k, g1, g2, g3⟩ := freeI_free l 0 (by omega)
    have e : (freeI l 0).toNat = k := by omega
    rw [e]
    exact ⟨g3, fun k hk _ => ⟨hk, rfl⟩, fun k hk => ⟨hk, rfl⟩⟩
theorem wfa_new {l : List SB} {at' : List (Nat × Int)} (h : WFA l at') {id : Nat} (hk : khas at' id = false) (s : SB) (hs : s.taken = true ∧ s.id = id) : WFA ((flS l).set (fidx l) s) (kset at' id ((fidx l : Nat) : Int)) := by
  obtain ⟨s1, s2, s3⟩ := flS_spec l
  have hlt := (fidx_lt l).1
  refine ⟨fun k hk' ht => ?_, fun id' hk' => ?_⟩
  · rw [List.length_set] at hk'
    rw [getD_set hk'] at ht ⊢
    rw [khas_kset, klook_kset]
    by_cases e : fidx l = k
    · subst e; rw [if_pos rfl] at ht ⊢; rw [hs.2]; simp
    · rw [if_neg e] at ht ⊢
      obtain ⟨g1, g2⟩ := s2 k hk' (Ne.symm e)
      rw [g2] at ht ⊢
      obtain ⟨g3, g4⟩ := h.a k g1 ht
      have g5 : (l.getD k default).id ≠ id := by rintro g5; rw [g5, hk] at g3; cases g3
      rw [if_neg g5, g3, g4]; simp
  · rw [khas_kset] at hk'
    rw [klook_kset]
    by_cases e : id' = id
    · subst e
      rw [if_pos rfl]
      exact ⟨fidx l, rfl, by rw [List.length_set]; exact hlt, by rw [getD_set hlt, if_pos rfl]; exact hs⟩
    · rw [if_neg e]
      rw [decide_eq_false e, Bool.false_or] at hk'
      obtain ⟨k, g1, g2, g3, g4⟩ := h.b id' hk'
      obtain ⟨g5, g6⟩ := s3 k g2
      refine ⟨k, g1, by rw [List.length_set]; exact g5, ?_⟩
      rw [getD_set g5]
      by_cases e2 : fidx l = k
      · rw [← e2] at g6 g3; rw [← g6, s1] at g3; cases g3
      · rw [if_neg e2, g6]; exact ⟨g3, g4⟩
def recA (l : List SB) (at' : List (Nat × Int)) (id : Nat) : List UInt8 := (l.getD (klook at' id).toNat default).bs
theorem names_mem {l : List SB} {at' : List (Nat × Int)} (h : WFA l at') (id : Nat) : id ∈ namesOf l ↔ khas at' id = true := by
  unfold namesOf
  rw [List.mem_map]
  constructor
  · rintro ⟨s, hs, rfl⟩
    obtain ⟨h1, h2⟩ := List.mem_filter.1 hs
    obtain ⟨j, hj, rfl⟩ := List.mem_iff_getElem.1 h1
    have := h.a j hj (by simpa [List.getD, hj] using h2)
    simpa [List.getD, hj] using this.1
  · intro hk
    obtain ⟨j, g1, g2, g3, g4⟩ := h.b id hk
    refine ⟨l.getD j default, List.mem_filter.2 ⟨by simp [List.getD, g2], g3⟩, g4⟩
theorem names_nodup {l : List SB} {at' : List (Nat × Int)} (h : WFA l at') : (namesOf l).Nodup := by
  have : ∀ n, n ≤ l.length → (namesOf (l.take n)).Nodup := by
    intro n
    induction n with
    | zero => intro _; simp [namesOf]
    | succ n ih =>
      intro hn
      rw [names_succ (by omega)]
      cases ht : (l.getD n default).taken with
      | false => simpa using ih (by omega)
      | true =>
        rw [if_pos rfl]
        refine List.nodup_append.2 ⟨ih (by omega), by simp, fun a ha b hb => ?_⟩
        simp only [List.mem_singleton] at hb; subst hb
        rintro rfl
        unfold namesOf at ha
        obtain ⟨s, hs, he⟩ := List.mem_map.1 ha
        obtain ⟨h1, h2⟩ := List.mem_filter.1 hs
        obtain ⟨j, hj, rfl⟩ := List.mem_iff_getElem.1 h1
        rw [List.length_take] at hj
        rw [List.getElem_take] at he h2
        have g1 := h.a n (by omega) ht
        have g2 := h.a j (by omega) (by simpa [List.getD, show j < l.length by omega] using h2)
        have e : (l.getD j default).id = (l.getD n default).id := by rw [← he]; simp [List.getD, show j < l.length by omega]
        rw [e, g1.2] at g2
        have := g2.2
        omega
  simpa using this l.length (Nat.le_refl _)
theorem ids_up {l : List SB} {at' : List (Nat × Int)} (h : WFA l at') : (idsA l).Pairwise (· < ·) := srtL_up (names_nodup h)
theorem ids_mem {l : List SB} {at' : List (Nat × Int)} (h : WFA l at') (id : Nat) : id ∈ idsA l ↔ khas at' id = true := by
  unfold idsA; rw [(srtL_spec _).1.mem_iff, names_mem h]
theorem ids_where {l : List SB} {at' : List (Nat × Int)} (h : WFA l at') : ∀ id ∈ idsA l, ∃ j : Nat, klook at' id = (j : Int) ∧ j < l.length ∧ (l.getD j default).taken = true := fun id hid => by
  obtain ⟨j, g1, g2, g3, _⟩ := h.b id ((ids_mem h id).1 hid)
  exact ⟨j, g1, g2, g3⟩
theorem rec_old {l : List SB} {at' : List (Nat × Int)} (h : WFA l at') {id j : Nat} (hk : khas at' id = true) (hj : klook at' id = ((j : Nat) : Int)) (s : SB) (id' : Nat) (hk' : khas at' id' = true) : recA (l.set j s) at' id' = if id' = id then s.bs else recA l at' id' := by
  obtain ⟨k, g1, g2, g3, g4⟩ := h.b id' hk'
  obtain ⟨k0, f1, f2, f3, f4⟩ := h.b id hk
  unfold recA
  rw [g1, Int.toNat_natCast, getD_set g2]
  by_cases e : id' = id
  · subst e; rw [if_pos rfl, if_pos (by omega)]
  · rw [if_neg e, if_neg]
    rintro rfl
    have : k0 = j := by omega
    subst this
    exact e (by rw [← g4, f4])
theorem rec_new {l : List SB} {at' : List (Nat × Int)} (h : WFA l at') {id : Nat} (hk : khas at' id = false) (s : SB) (id' : Nat) (hk' : khas at' id' = true ∨ id' = id) : recA ((flS l).set (fidx l) s) (kset at' id ((fidx l : Nat) : Int)) id' = if id' = id then s.bs else recA l at' id' := by
  obtain ⟨s1, s2, s3⟩ := flS_spec l
  have hlt := (fidx_lt l).1
  unfold recA
  rw [klook_kset]
  by_cases e : id' = id
  · rw [if_pos e, if_pos e, Int.toNat_natCast, getD_set hlt, if_pos rfl]
  · rw [if_neg e, if_neg e]
    have hk2 : khas at' id' = true := hk'.resolve_right e
    obtain ⟨k, g1, g2, g3, g4⟩ := h.b id' hk2
    obtain ⟨g5, g6⟩ := s3 k g2
    rw [g1, Int.toNat_natCast, getD_set g5, if_neg, g6]
    rintro rfl
    rw [← g6, s1] at g3; cases g3
theorem bytes_ext {l l2 : List SB} {a a2 : List (Nat × Int)} (hi : idsA l = idsA l2) (hr : ∀ id ∈ idsA l, recA l a id = recA l2 a2 id) : bytesA l a = bytesA l2 a2 := by
  unfold bytesA
  rw [← hi]
  have : ∀ (r : List Nat) (out : List UInt8), (∀ id ∈ r, recA l a id = recA l2 a2 id) → r.foldl (stepB l a) out = r.foldl (stepB l2 a2) out := by
    intro r
    induction r with
    | nil => intro out _; rfl
    | cons id r ih =>
      intro out h
      have e : stepB l a out id = stepB l2 a2 out id := by
        unfold stepB
        have := h id (by simp)
        unfold recA at this; rw [this]
      rw [List.foldl_cons, List.foldl_cons, e]
      exact ih _ fun x hx => h x (by simp [hx])
  exact this _ _ hr
theorem ids_ext {l l2 : List SB} {a a2 : List (Nat × Int)} (h : WFA l a) (h2 : WFA l2 a2) (hk : ∀ id, khas a id = khas a2 id) : idsA l = idsA l2 :=
  up_ext (ids_up h) (ids_up h2) fun id => by rw [ids_mem h, ids_mem h2, hk]
end Go.Proofs.Ythfgocinlbogeaa
