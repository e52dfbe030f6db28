/- Part of the proof of the law ArenaVersions: the texts AE, AF, AG, TsJ, AH. No conditions. -/
import Derived.Test.YthfgocinlbogeaaArenaVersionsE
set_option linter.unusedSimpArgs false
set_option linter.unusedVariables false
namespace Go.Proofs.Ythfgocinlbogeaa
open Go.Ts
set_option linter.unusedSimpArgs false
set_option linter.unusedVariables false
set_option linter.unnecessarySimpa false
attribute [local irreducible] Go.Ts.AW Go.Ts.AOps Go.Ts.AL Go.Ts.AOp Go.Ts.ACalls Go.Ts.DL Go.Ts.DQ0 Go.Ts.EL
def namesOf (l : List SB) : List Nat := (l.filter (·.taken)).map (·.id)
def idsA (l : List SB) : List Nat := srtL (namesOf l)
def bL : List Nat → Nat → List (Nat × Ob)
  | [], _ => []
  | x :: l, i => [(i, .cells (rowT mT (x :: l).toArray))]
structure IdX (l : List SB) where
  i : Nat
  y : Nat
  hi : i ≤ l.length
theorem names_succ {l : List SB} {i : Nat} (h : i < l.length) : namesOf (l.take (i + 1)) = namesOf (l.take i) ++ (if (l.getD i default).taken = true then [(l.getD i default).id] else []) := by
  unfold namesOf
  rw [List.take_add_one, List.filter_append, List.map_append]
  congr 1
  simp only [List.getElem?_eq_getElem h, Option.toList_some, List.getD, Option.getD_some]
  by_cases hb : l[i].taken = true <;> simp [hb]
set_option maxHeartbeats 1000000 in
theorem arena_IDs (v : UInt8) (l : List SB) (at' : List (Nat × Int)) (hl : l.length ≤ 255) (p ri m : Nat) : OnL Try.prog 33 [.ptr p 0] (arL v l at' p ri m) (fun u L => u = .sl 1 .no ((idsA l).map mT) ∧ L = arL v l at' p ri m) := by
  intro off
  cases l with
  | nil =>
    have hs0 := sort0
    refine Bp (N := 28) (rs := [.tmp 2]) hG Try.func33 rfl rfl rfl rfl rfl ?_
    repeat' (first
    | ((show AL _ _ _ _ _ _ _ _; refine Ae Y ?_); (first
      | refine Ap hG Y Y ?_
      | refine A3 hG Y Y ?_
      | (show AOp _ _ ⟨_, .call ⟨.builtin .len, _, _⟩, _, _, _, _⟩ _ _ _; first | refine Br hG Y Y Y Y ?_ | refine By hG Y Y Y Y Y ?_)
      | (show AOp _ _ ⟨_, .binOp .add _ _ _ _, _, _, _, _⟩ _ _ _; first | refine Ac hG Y Y Y Y Y (by omega) ?_ | refine Ac (m := 1) hG Y Y Y Y Y (by omega) ?_ | refine Aa hG Y Y Y Y Y (by omega) ?_)
      | (show AOp _ _ ⟨_, .binOp _ _ _ _ _, _, _, _, _⟩ _ _ _; first | refine Au hG Y Y Y Y Y (by omega) ?_ | refine Av hG Y Y Y Y Y (by omega) ?_ | (refine Ao hG Y Y Y Y Y (fun h => ?_) (fun h => ?_)) | refine Bj hG Y Y Y ?_ | refine Bw hG Y Y Y Y ?_)
      | (show AOp _ _ ⟨_, .load _ _, _, _, _, _⟩ _ _ _; first | refine A5 0 sbT hG Y Y Y Y Y (by omega) Y ?_ | refine A4 0 sbT hG Y Y Y Y Y (by omega) Y ?_ | refine A5 1 sbT hG Y Y Y Y Y (by omega) Y ?_ | refine A4 1 sbT hG Y Y Y Y Y (by omega) Y ?_ | refine A5 2 sbT hG Y Y Y Y Y (by omega) Y ?_ | refine A4 2 sbT hG Y Y Y Y Y (by omega) Y ?_ | refine A5 3 sbT hG Y Y Y Y Y (by omega) Y ?_ | refine A4 3 sbT hG Y Y Y Y Y (by omega) Y ?_ | refine Ak (α := UInt16) 0 hG Y Y Y Y (by omega) Y ?_ | refine Ak (α := UInt16) 1 hG Y Y Y Y (by omega) Y ?_ | refine Ax hG Y Y Y ?_ | refine A8 0 hG Y Y Y Y ?_ | refine A8 1 hG Y Y Y Y ?_ | refine A8 2 hG Y Y Y Y ?_)
      | (show AOp _ _ ⟨_, .indexAddr _ _ _, _, _, _, _⟩ _ _ _; first | refine Bz (sz := 4) hG Y Y Y Y Y Y Y (by omega) ?_ | refine A2 hG Y Y Y Y Y Y Y (by omega) ?_ | refine Aw hG Y Y Y Y Y Y Y (by omega) ?_ | refine Az hG Y Y Y Y Y Y Y (by omega) ?_ | refine A9 hG Y Y ?_)
      | (show AOp _ _ ⟨_, .buildSlice _ _ _, _, _, _, _⟩ _ _ _; first | refine r_mk (sz := 1) hG Y Y Y Y Y Y Y ?_)
      | (show AOp _ _ ⟨_, .alloc _, _, _, _, _⟩ _ _ _; refine B6 hG Y Y (fun i => ?_))
      | (show AOp _ _ ⟨_, .store _ _ _, _, _, _, _⟩ _ _ _; first | refine A0 (α := UInt16) 0 hG Y Y Y hT_cells hT_sc Y Y (by first | omega | (simp only [Array.size_setIfInBounds]; omega)) ?_ | refine A0 (α := UInt16) 1 hG Y Y Y hT_cells hT_sc Y Y (by first | omega | (simp only [Array.size_setIfInBounds]; omega)) ?_ | refine Bh 0 hG Y Y Y Y Y Y Y ?_ | refine Bh 1 hG Y Y Y Y Y Y Y ?_ | refine Bh 2 hG Y Y Y Y Y Y Y ?_)
      | (show AOp _ _ ⟨_, .call ⟨.builtin .append, _, _⟩, _, _, _, _⟩ _ _ _; first | refine Cb (sz := 1) (xs := []) hG Y Y Y Y Y Y Y ⟨_, Y⟩ Y Y Y Y Y Y Y (by first | omega | (simp; omega)) (fun k => ?_) | refine r_appm 0 hG Y Y Y Y Y Y Y ⟨_, Y⟩ Y Y Y Y Y (by first | omega | (simp only [List.length_append, List.length_cons, List.length_nil]; omega)) (fun k => ?_) | fail)
      | refine r_q hG Y Y Y ?_))
    | (show AL _ _ _ _ _ _ _ _; first | refine Bi Y Y Y ?_ | (refine As ?_; first | show AW _ _ _ _ _ _ | show ∃ x', _ < _ ∧ _)) | (show AW _ _ (.seq _ _) _ _ _; refine Ai ?_; intro Q1) | (show AW _ _ (.region _ _ false) _ _ _; refine Ad ?_; intro O1) | (show AW _ _ (.cond _ _ _) _ _ _; first | refine Am Y ?_ | refine Al Y ?_ | refine Bd Y (fun h => ?_) (fun h => ?_)) | (show AW _ _ (.skip) _ _ _; refine Aj ?_; first | show AW _ _ _ _ _ _ | show ∃ x', _ < _ ∧ _) | (show AW _ _ (.block _ _) _ _ _; refine Af ?_; intro Q1) | (show AW _ _ (.exit _) _ _ _; refine Ar ?_; first | show AW _ _ _ _ _ _ | show ∃ x', _ < _ ∧ _) | (show AW _ _ (.ret) _ _ _; refine At ?_; try dsimp only [Ay, Ab, A6, Ah]) | fail)
    refine aw_loop (X := Unit) (fun _ => [(3, .nilsl), (12, .int .i64 0), (13, .int .i64 0)]) (fun _ => ⟨arL v [] at' p ri m, [], off, none⟩) (fun _ => 0) () (by repeat (first | exact .nil _ | refine .cons rfl ?_)) (.refl _) ?_
    intro _
    repeat' (first
    | ((show AL _ _ _ _ _ _ _ _; refine Ae Y ?_); (first
      | refine Ap hG Y Y ?_
      | refine A3 hG Y Y ?_
      | (show AOp _ _ ⟨_, .call ⟨.builtin .len, _, _⟩, _, _, _, _⟩ _ _ _; first | refine Br hG Y Y Y Y ?_ | refine By hG Y Y Y Y Y ?_)
      | (show AOp _ _ ⟨_, .binOp .add _ _ _ _, _, _, _, _⟩ _ _ _; first | refine Ac hG Y Y Y Y Y (by omega) ?_ | refine Ac (m := 1) hG Y Y Y Y Y (by omega) ?_ | refine Aa hG Y Y Y Y Y (by omega) ?_)
      | (show AOp _ _ ⟨_, .binOp _ _ _ _ _, _, _, _, _⟩ _ _ _; first | refine Au hG Y Y Y Y Y (by omega) ?_ | refine Av hG Y Y Y Y Y (by omega) ?_ | (refine Ao hG Y Y Y Y Y (fun h => ?_) (fun h => ?_)) | refine Bj hG Y Y Y ?_ | refine Bw hG Y Y Y Y ?_)
      | (show AOp _ _ ⟨_, .load _ _, _, _, _, _⟩ _ _ _; first | refine A5 0 sbT hG Y Y Y Y Y (by omega) Y ?_ | refine A4 0 sbT hG Y Y Y Y Y (by omega) Y ?_ | refine A5 1 sbT hG Y Y Y Y Y (by omega) Y ?_ | refine A4 1 sbT hG Y Y Y Y Y (by omega) Y ?_ | refine A5 2 sbT hG Y Y Y Y Y (by omega) Y ?_ | refine A4 2 sbT hG Y Y Y Y Y (by omega) Y ?_ | refine A5 3 sbT hG Y Y Y Y Y (by omega) Y ?_ | refine A4 3 sbT hG Y Y Y Y Y (by omega) Y ?_ | refine Ak (α := UInt16) 0 hG Y Y Y Y (by omega) Y ?_ | refine Ak (α := UInt16) 1 hG Y Y Y Y (by omega) Y ?_ | refine Ax hG Y Y Y ?_ | refine A8 0 hG Y Y Y Y ?_ | refine A8 1 hG Y Y Y Y ?_ | refine A8 2 hG Y Y Y Y ?_)
      | (show AOp _ _ ⟨_, .indexAddr _ _ _, _, _, _, _⟩ _ _ _; first | refine Bz (sz := 4) hG Y Y Y Y Y Y Y (by omega) ?_ | refine A2 hG Y Y Y Y Y Y Y (by omega) ?_ | refine Aw hG Y Y Y Y Y Y Y (by omega) ?_ | refine Az hG Y Y Y Y Y Y Y (by omega) ?_ | refine A9 hG Y Y ?_)
      | (show AOp _ _ ⟨_, .buildSlice _ _ _, _, _, _, _⟩ _ _ _; first | refine r_mk (sz := 1) hG Y Y Y Y Y Y Y ?_)
      | (show AOp _ _ ⟨_, .alloc _, _, _, _, _⟩ _ _ _; refine B6 hG Y Y (fun i => ?_))
      | (show AOp _ _ ⟨_, .store _ _ _, _, _, _, _⟩ _ _ _; first | refine A0 (α := UInt16) 0 hG Y Y Y hT_cells hT_sc Y Y (by first | omega | (simp only [Array.size_setIfInBounds]; omega)) ?_ | refine A0 (α := UInt16) 1 hG Y Y Y hT_cells hT_sc Y Y (by first | omega | (simp only [Array.size_setIfInBounds]; omega)) ?_ | refine Bh 0 hG Y Y Y Y Y Y Y ?_ | refine Bh 1 hG Y Y Y Y Y Y Y ?_ | refine Bh 2 hG Y Y Y Y Y Y Y ?_)
      | (show AOp _ _ ⟨_, .call ⟨.builtin .append, _, _⟩, _, _, _, _⟩ _ _ _; first | refine Cb (sz := 1) (xs := []) hG Y Y Y Y Y Y Y ⟨_, Y⟩ Y Y Y Y Y Y Y (by first | omega | (simp; omega)) (fun k => ?_) | refine r_appm 0 hG Y Y Y Y Y Y Y ⟨_, Y⟩ Y Y Y Y Y (by first | omega | (simp only [List.length_append, List.length_cons, List.length_nil]; omega)) (fun k => ?_) | fail)
      | (show AOp _ _ ⟨_, .call ⟨.value _, _, _⟩, _, _, _, _⟩ _ _ _; first | refine B0 Y Y Y Y Y (by first | (apply hs0 <;> (first | assumption | omega | exact Bf _ _ | exact Bo _ | exact Bk _ _ | exact Bs _ | rfl | (simp; omega))) | fail) ?_ | fail)
      | refine r_q hG Y Y Y ?_))
    | (show AL _ _ _ _ _ _ _ _; first | refine Bi Y Y Y ?_ | (refine As ?_; first | show AW _ _ _ _ _ _ | show ∃ x', _ < _ ∧ _)) | (show AW _ _ (.seq _ _) _ _ _; refine Ai ?_; intro Q1) | (show AW _ _ (.region _ _ false) _ _ _; refine Ad ?_; intro O1) | (show AW _ _ (.cond _ _ _) _ _ _; first | refine Am Y ?_ | refine Al Y ?_ | refine Bd Y (fun h => ?_) (fun h => ?_)) | (show AW _ _ (.skip) _ _ _; refine Aj ?_; first | show AW _ _ _ _ _ _ | show ∃ x', _ < _ ∧ _) | (show AW _ _ (.block _ _) _ _ _; refine Af ?_; intro Q1) | (show AW _ _ (.exit _) _ _ _; refine Ar ?_; first | show AW _ _ _ _ _ _ | show ∃ x', _ < _ ∧ _) | (show AW _ _ (.ret) _ _ _; refine At ?_; try dsimp only [Ay, Ab, A6, Ah]) | fail)
    refine ret_onL (Bq rfl Bl) (.refl _) (.refl _) (.nil 1) rfl ⟨?_, rfl⟩
    rw [show idsA [] = [] from srtL_nil]; rfl
  | cons s l' =>
    obtain ⟨l, hll⟩ : ∃ l, s :: l' = l := ⟨_, rfl⟩
    have hne : l ≠ [] := by rw [← hll]; simp
    rw [hll] at hl ⊢
    have hA : arL v l at' p ri m = [(p, .cells [bT v, .aref 4 ri 0 l.length none, .map (some m)]), (m, .map (at'.map kvT)), (ri, .cells (flat (l.map sbT)))] := by
      unfold arL; rw [slT_ne hne, rowOf_ne hne]
    rw [hA]
    clear hll
    refine Bp (N := 28) (rs := [.tmp 2]) hG Try.func33 rfl rfl rfl rfl rfl ?_
    repeat' (first
    | ((show AL _ _ _ _ _ _ _ _; refine Ae Y ?_); (first
      | refine Ap hG Y Y ?_
      | refine A3 hG Y Y ?_
      | (show AOp _ _ ⟨_, .call ⟨.builtin .len, _, _⟩, _, _, _, _⟩ _ _ _; first | refine Br hG Y Y Y Y ?_ | refine By hG Y Y Y Y Y ?_)
      | (show AOp _ _ ⟨_, .binOp .add _ _ _ _, _, _, _, _⟩ _ _ _; first | refine Ac hG Y Y Y Y Y (by omega) ?_ | refine Ac (m := 1) hG Y Y Y Y Y (by omega) ?_ | refine Aa hG Y Y Y Y Y (by omega) ?_)
      | (show AOp _ _ ⟨_, .binOp _ _ _ _ _, _, _, _, _⟩ _ _ _; first | refine Au hG Y Y Y Y Y (by omega) ?_ | refine Av hG Y Y Y Y Y (by omega) ?_ | (refine Ao hG Y Y Y Y Y (fun h => ?_) (fun h => ?_)) | refine Bj hG Y Y Y ?_ | refine Bw hG Y Y Y Y ?_)
      | (show AOp _ _ ⟨_, .load _ _, _, _, _, _⟩ _ _ _; first | refine A5 0 sbT hG Y Y Y Y Y (by omega) Y ?_ | refine A4 0 sbT hG Y Y Y Y Y (by omega) Y ?_ | refine A5 1 sbT hG Y Y Y Y Y (by omega) Y ?_ | refine A4 1 sbT hG Y Y Y Y Y (by omega) Y ?_ | refine A5 2 sbT hG Y Y Y Y Y (by omega) Y ?_ | refine A4 2 sbT hG Y Y Y Y Y (by omega) Y ?_ | refine A5 3 sbT hG Y Y Y Y Y (by omega) Y ?_ | refine A4 3 sbT hG Y Y Y Y Y (by omega) Y ?_ | refine Ak (α := UInt16) 0 hG Y Y Y Y (by omega) Y ?_ | refine Ak (α := UInt16) 1 hG Y Y Y Y (by omega) Y ?_ | refine Ax hG Y Y Y ?_ | refine A8 0 hG Y Y Y Y ?_ | refine A8 1 hG Y Y Y Y ?_ | refine A8 2 hG Y Y Y Y ?_)
      | (show AOp _ _ ⟨_, .indexAddr _ _ _, _, _, _, _⟩ _ _ _; first | refine Bz (sz := 4) hG Y Y Y Y Y Y Y (by omega) ?_ | refine A2 hG Y Y Y Y Y Y Y (by omega) ?_ | refine Aw hG Y Y Y Y Y Y Y (by omega) ?_ | refine Az hG Y Y Y Y Y Y Y (by omega) ?_ | refine A9 hG Y Y ?_)
      | (show AOp _ _ ⟨_, .buildSlice _ _ _, _, _, _, _⟩ _ _ _; first | refine r_mk (sz := 1) hG Y Y Y Y Y Y Y ?_)
      | (show AOp _ _ ⟨_, .alloc _, _, _, _, _⟩ _ _ _; refine B6 hG Y Y (fun i => ?_))
      | (show AOp _ _ ⟨_, .store _ _ _, _, _, _, _⟩ _ _ _; first | refine A0 (α := UInt16) 0 hG Y Y Y hT_cells hT_sc Y Y (by first | omega | (simp only [Array.size_setIfInBounds]; omega)) ?_ | refine A0 (α := UInt16) 1 hG Y Y Y hT_cells hT_sc Y Y (by first | omega | (simp only [Array.size_setIfInBounds]; omega)) ?_ | refine Bh 0 hG Y Y Y Y Y Y Y ?_ | refine Bh 1 hG Y Y Y Y Y Y Y ?_ | refine Bh 2 hG Y Y Y Y Y Y Y ?_)
      | (show AOp _ _ ⟨_, .call ⟨.builtin .append, _, _⟩, _, _, _, _⟩ _ _ _; first | refine Cb (sz := 1) (xs := []) hG Y Y Y Y Y Y Y ⟨_, Y⟩ Y Y Y Y Y Y Y (by first | omega | (simp; omega)) (fun k => ?_) | refine r_appm 0 hG Y Y Y Y Y Y Y ⟨_, Y⟩ Y Y Y Y Y (by first | omega | (simp only [List.length_append, List.length_cons, List.length_nil]; omega)) (fun k => ?_) | fail)
      | refine r_q hG Y Y Y ?_))
    | (show AL _ _ _ _ _ _ _ _; first | refine Bi Y Y Y ?_ | (refine As ?_; first | show AW _ _ _ _ _ _ | show ∃ x', _ < _ ∧ _)) | (show AW _ _ (.seq _ _) _ _ _; refine Ai ?_; intro Q1) | (show AW _ _ (.region _ _ false) _ _ _; refine Ad ?_; intro O1) | (show AW _ _ (.cond _ _ _) _ _ _; first | refine Am Y ?_ | refine Al Y ?_ | refine Bd Y (fun h => ?_) (fun h => ?_)) | (show AW _ _ (.skip) _ _ _; refine Aj ?_; first | show AW _ _ _ _ _ _ | show ∃ x', _ < _ ∧ _) | (show AW _ _ (.block _ _) _ _ _; refine Af ?_; intro Q1) | (show AW _ _ (.exit _) _ _ _; refine Ar ?_; first | show AW _ _ _ _ _ _ | show ∃ x', _ < _ ∧ _) | (show AW _ _ (.ret) _ _ _; refine At ?_; try dsimp only [Ay, Ab, A6, Ah]) | fail)
    refine aw_loop (X := IdX l) (fun x => [(3, bE (namesOf (l.take x.i)) x.y), (11, .aref 4 ri 0 l.length none), (12, .int .i64 (l.length : Int)), (13, .int .i64 (x.i : Int))]) (fun x => ⟨bL (namesOf (l.take x.i)) x.y ++ [(p, .cells [bT v, .aref 4 ri 0 l.length none, .map (some m)]), (m, .map (at'.map kvT)), (ri, .cells (flat (l.map sbT)))], [], off, none⟩) (fun x => l.length - x.i) ⟨0, 0, Nat.zero_le _⟩ (by repeat (first | exact .nil _ | refine .cons rfl ?_)) (.refl _) ?_
    rintro ⟨q, y, hi⟩
    dsimp only
    have hgl : (namesOf (l.take q)).length ≤ 255 := by
      unfold namesOf
      rw [List.length_map]
      refine Nat.le_trans (List.length_filter_le _ _) ?_
      rw [List.length_take]; omega
    by_cases hil : q < l.length
    · have hks := names_succ hil
      generalize namesOf (l.take q) = g at *
      have hsc : ∀ s : SB, (notRaw (sbT s) && (sbT s).cells.all T.scalar) = true := fun s => by
        unfold sbT recT
        cases s.taken <;> rfl
      cases ht : (l.getD q default).taken with
      | true =>
        rw [if_pos ht] at hks
        cases g with
        | nil =>
          repeat' (first
    | ((show AL _ _ _ _ _ _ _ _; refine Ae Y ?_); (first
      | refine Ap hG Y Y ?_
      | refine A3 hG Y Y ?_
      | (show AOp _ _ ⟨_, .call ⟨.builtin .len, _, _⟩, _, _, _, _⟩ _ _ _; first | refine Br hG Y Y Y Y ?_ | refine By hG Y Y Y Y Y ?_)
      | (show AOp _ _ ⟨_, .binOp .add _ _ _ _, _, _, _, _⟩ _ _ _; first | refine Ac hG Y Y Y Y Y (by omega) ?_ | refine Ac (m := 1) hG Y Y Y Y Y (by omega) ?_ | refine Aa hG Y Y Y Y Y (by omega) ?_)
      | (show AOp _ _ ⟨_, .binOp _ _ _ _ _, _, _, _, _⟩ _ _ _; first | refine Au hG Y Y Y Y Y (by omega) ?_ | refine Av hG Y Y Y Y Y (by omega) ?_ | (refine Ao hG Y Y Y Y Y (fun h => ?_) (fun h => ?_)) | refine Bj hG Y Y Y ?_ | refine Bw hG Y Y Y Y ?_)
      | (show AOp _ _ ⟨_, .load _ _, _, _, _, _⟩ _ _ _; first | refine A5 0 sbT hG Y Y Y Y Y (by omega) Y ?_ | refine A4 0 sbT hG Y Y Y Y Y (by omega) Y ?_ | refine A5 1 sbT hG Y Y Y Y Y (by omega) Y ?_ | refine A4 1 sbT hG Y Y Y Y Y (by omega) Y ?_ | refine A5 2 sbT hG Y Y Y Y Y (by omega) Y ?_ | refine A4 2 sbT hG Y Y Y Y Y (by omega) Y ?_ | refine A5 3 sbT hG Y Y Y Y Y (by omega) Y ?_ | refine A4 3 sbT hG Y Y Y Y Y (by omega) Y ?_ | refine Ak (α := UInt16) 0 hG Y Y Y Y (by omega) Y ?_ | refine Ak (α := UInt16) 1 hG Y Y Y Y (by omega) Y ?_ | refine Ax hG Y Y Y ?_ | refine A8 0 hG Y Y Y Y ?_ | refine A8 1 hG Y Y Y Y ?_ | refine A8 2 hG Y Y Y Y ?_)
      | (show AOp _ _ ⟨_, .indexAddr _ _ _, _, _, _, _⟩ _ _ _; first | refine Bz (sz := 4) hG Y Y Y Y Y Y Y (by omega) ?_ | refine A2 hG Y Y Y Y Y Y Y (by omega) ?_ | refine Aw hG Y Y Y Y Y Y Y (by omega) ?_ | refine Az hG Y Y Y Y Y Y Y (by omega) ?_ | refine A9 hG Y Y ?_)
      | (show AOp _ _ ⟨_, .buildSlice _ _ _, _, _, _, _⟩ _ _ _; first | refine r_mk (sz := 1) hG Y Y Y Y Y Y Y ?_)
      | (show AOp _ _ ⟨_, .alloc _, _, _, _, _⟩ _ _ _; refine B6 hG Y Y (fun i => ?_))
      | (show AOp _ _ ⟨_, .store _ _ _, _, _, _, _⟩ _ _ _; fail)
      | (show AOp _ _ ⟨_, .call ⟨.builtin .append, _, _⟩, _, _, _, _⟩ _ _ _; first | refine Cb (sz := 1) (xs := []) hG Y Y Y Y Y Y Y ⟨_, Y⟩ Y Y Y Y Y Y Y (by first | omega | (simp; omega)) (fun k => ?_) | refine r_appm 0 hG Y Y Y Y Y Y Y ⟨_, Y⟩ Y Y Y Y Y (by first | omega | (simp only [List.length_append, List.length_cons, List.length_nil]; omega)) (fun k => ?_) | fail)
      | refine r_q hG Y Y Y ?_))
    | (show AL _ _ _ _ _ _ _ _; first | refine Bi Y Y Y ?_ | (refine As ?_; first | show AW _ _ _ _ _ _ | show ∃ x', _ < _ ∧ _)) | (show AW _ _ (.seq _ _) _ _ _; refine Ai ?_; intro Q1) | (show AW _ _ (.region _ _ false) _ _ _; refine Ad ?_; intro O1) | (show AW _ _ (.cond _ _ _) _ _ _; first | refine Am Y ?_ | refine Al Y ?_ | refine Bd Y (fun h => ?_) (fun h => ?_)) | (show AW _ _ (.skip) _ _ _; refine Aj ?_; first | show AW _ _ _ _ _ _ | show ∃ x', _ < _ ∧ _) | (show AW _ _ (.block _ _) _ _ _; refine Af ?_; intro Q1) | (show AW _ _ (.exit _) _ _ _; refine Ar ?_; first | show AW _ _ _ _ _ _ | show ∃ x', _ < _ ∧ _) | (show AW _ _ (.ret) _ _ _; refine At ?_; try dsimp only [Ay, Ab, A6, Ah]) | fail)
          refine Ae rfl ?_
          refine Bh 0 (u := sbT (l.getD q default)) hG rfl rfl rfl (hsc _) rfl rfl rfl ?_
          repeat' (first
    | ((show AL _ _ _ _ _ _ _ _; refine Ae Y ?_); (first
      | refine Ap hG Y Y ?_
      | refine A3 hG Y Y ?_
      | (show AOp _ _ ⟨_, .call ⟨.builtin .len, _, _⟩, _, _, _, _⟩ _ _ _; first | refine Br hG Y Y Y Y ?_ | refine By hG Y Y Y Y Y ?_)
      | (show AOp _ _ ⟨_, .binOp .add _ _ _ _, _, _, _, _⟩ _ _ _; first | refine Ac hG Y Y Y Y Y (by omega) ?_ | refine Ac (m := 1) hG Y Y Y Y Y (by omega) ?_ | refine Aa hG Y Y Y Y Y (by omega) ?_)
      | (show AOp _ _ ⟨_, .binOp _ _ _ _ _, _, _, _, _⟩ _ _ _; first | refine Au hG Y Y Y Y Y (by omega) ?_ | refine Av hG Y Y Y Y Y (by omega) ?_ | (refine Ao hG Y Y Y Y Y (fun h => ?_) (fun h => ?_)) | refine Bj hG Y Y Y ?_ | refine Bw hG Y Y Y Y ?_)
      | (show AOp _ _ ⟨_, .load _ _, _, _, _, _⟩ _ _ _; first | refine A5 0 sbT hG Y Y Y Y Y (by omega) Y ?_ | refine A4 0 sbT hG Y Y Y Y Y (by omega) Y ?_ | refine A5 1 sbT hG Y Y Y Y Y (by omega) Y ?_ | refine A4 1 sbT hG Y Y Y Y Y (by omega) Y ?_ | refine A5 2 sbT hG Y Y Y Y Y (by omega) Y ?_ | refine A4 2 sbT hG Y Y Y Y Y (by omega) Y ?_ | refine A5 3 sbT hG Y Y Y Y Y (by omega) Y ?_ | refine A4 3 sbT hG Y Y Y Y Y (by omega) Y ?_ | refine Ak (α := UInt16) 0 hG Y Y Y Y (by omega) Y ?_ | refine Ak (α := UInt16) 1 hG Y Y Y Y (by omega) Y ?_ | refine Ax hG Y Y Y ?_ | refine A8 0 hG Y Y Y Y ?_ | refine A8 1 hG Y Y Y Y ?_ | refine A8 2 hG Y Y Y Y ?_)
      | (show AOp _ _ ⟨_, .indexAddr _ _ _, _, _, _, _⟩ _ _ _; first | refine Bz (sz := 4) hG Y Y Y Y Y Y Y (by omega) ?_ | refine A2 hG Y Y Y Y Y Y Y (by omega) ?_ | refine Aw hG Y Y Y Y Y Y Y (by omega) ?_ | refine Az hG Y Y Y Y Y Y Y (by omega) ?_ | refine A9 hG Y Y ?_)
      | (show AOp _ _ ⟨_, .buildSlice _ _ _, _, _, _, _⟩ _ _ _; first | refine r_mk (sz := 1) hG Y Y Y Y Y Y Y ?_)
      | (show AOp _ _ ⟨_, .alloc _, _, _, _, _⟩ _ _ _; refine B6 hG Y Y (fun i => ?_))
      | (show AOp _ _ ⟨_, .store _ _ _, _, _, _, _⟩ _ _ _; first | refine A0 (α := UInt16) 0 hG Y Y Y hT_cells hT_sc Y Y (by first | omega | (simp only [Array.size_setIfInBounds]; omega)) ?_ | refine A0 (α := UInt16) 1 hG Y Y Y hT_cells hT_sc Y Y (by first | omega | (simp only [Array.size_setIfInBounds]; omega)) ?_ | refine Bh 0 hG Y Y Y Y Y Y Y ?_ | refine Bh 1 hG Y Y Y Y Y Y Y ?_ | refine Bh 2 hG Y Y Y Y Y Y Y ?_)
      | (show AOp _ _ ⟨_, .call ⟨.builtin .append, _, _⟩, _, _, _, _⟩ _ _ _; fail)
      | refine r_q hG Y Y Y ?_))
    | (show AL _ _ _ _ _ _ _ _; first | refine Bi Y Y Y ?_ | (refine As ?_; first | show AW _ _ _ _ _ _ | show ∃ x', _ < _ ∧ _)) | (show AW _ _ (.seq _ _) _ _ _; refine Ai ?_; intro Q1) | (show AW _ _ (.region _ _ false) _ _ _; refine Ad ?_; intro O1) | (show AW _ _ (.cond _ _ _) _ _ _; first | refine Am Y ?_ | refine Al Y ?_ | refine Bd Y (fun h => ?_) (fun h => ?_)) | (show AW _ _ (.skip) _ _ _; refine Aj ?_; first | show AW _ _ _ _ _ _ | show ∃ x', _ < _ ∧ _) | (show AW _ _ (.block _ _) _ _ _; refine Af ?_; intro Q1) | (show AW _ _ (.exit _) _ _ _; refine Ar ?_; first | show AW _ _ _ _ _ _ | show ∃ x', _ < _ ∧ _) | (show AW _ _ (.ret) _ _ _; refine At ?_; try dsimp only [Ay, Ab, A6, Ah]) | fail)
          rotate_left
          · exact absurd (ht.symm.trans h) (by decide)
          refine Ae rfl (aop_app0L (objs := fun _ => none) (ys := [mT (l.getD q default).id]) hG rfl rfl rfl rfl rfl ⟨_, rfl⟩ rfl rfl (fun i o h => by cases h) rfl rfl (by simp) (by simp) rfl (fun i' hi' => ?_))
          repeat' (first
    | ((show AL _ _ _ _ _ _ _ _; refine Ae Y ?_); (first
      | refine Ap hG Y Y ?_
      | refine A3 hG Y Y ?_
      | (show AOp _ _ ⟨_, .call ⟨.builtin .len, _, _⟩, _, _, _, _⟩ _ _ _; first | refine Br hG Y Y Y Y ?_ | refine By hG Y Y Y Y Y ?_)
      | (show AOp _ _ ⟨_, .binOp .add _ _ _ _, _, _, _, _⟩ _ _ _; first | refine Ac hG Y Y Y Y Y (by omega) ?_ | refine Ac (m := 1) hG Y Y Y Y Y (by omega) ?_ | refine Aa hG Y Y Y Y Y (by omega) ?_)
      | (show AOp _ _ ⟨_, .binOp _ _ _ _ _, _, _, _, _⟩ _ _ _; first | refine Au hG Y Y Y Y Y (by omega) ?_ | refine Av hG Y Y Y Y Y (by omega) ?_ | (refine Ao hG Y Y Y Y Y (fun h => ?_) (fun h => ?_)) | refine Bj hG Y Y Y ?_ | refine Bw hG Y Y Y Y ?_)
      | (show AOp _ _ ⟨_, .load _ _, _, _, _, _⟩ _ _ _; first | refine A5 0 sbT hG Y Y Y Y Y (by omega) Y ?_ | refine A4 0 sbT hG Y Y Y Y Y (by omega) Y ?_ | refine A5 1 sbT hG Y Y Y Y Y (by omega) Y ?_ | refine A4 1 sbT hG Y Y Y Y Y (by omega) Y ?_ | refine A5 2 sbT hG Y Y Y Y Y (by omega) Y ?_ | refine A4 2 sbT hG Y Y Y Y Y (by omega) Y ?_ | refine A5 3 sbT hG Y Y Y Y Y (by omega) Y ?_ | refine A4 3 sbT hG Y Y Y Y Y (by omega) Y ?_ | refine Ak (α := UInt16) 0 hG Y Y Y Y (by omega) Y ?_ | refine Ak (α := UInt16) 1 hG Y Y Y Y (by omega) Y ?_ | refine Ax hG Y Y Y ?_ | refine A8 0 hG Y Y Y Y ?_ | refine A8 1 hG Y Y Y Y ?_ | refine A8 2 hG Y Y Y Y ?_)
      | (show AOp _ _ ⟨_, .indexAddr _ _ _, _, _, _, _⟩ _ _ _; first | refine Bz (sz := 4) hG Y Y Y Y Y Y Y (by omega) ?_ | refine A2 hG Y Y Y Y Y Y Y (by omega) ?_ | refine Aw hG Y Y Y Y Y Y Y (by omega) ?_ | refine Az hG Y Y Y Y Y Y Y (by omega) ?_ | refine A9 hG Y Y ?_)
      | (show AOp _ _ ⟨_, .buildSlice _ _ _, _, _, _, _⟩ _ _ _; first | refine r_mk (sz := 1) hG Y Y Y Y Y Y Y ?_)
      | (show AOp _ _ ⟨_, .alloc _, _, _, _, _⟩ _ _ _; refine B6 hG Y Y (fun i => ?_))
      | (show AOp _ _ ⟨_, .store _ _ _, _, _, _, _⟩ _ _ _; first | refine A0 (α := UInt16) 0 hG Y Y Y hT_cells hT_sc Y Y (by first | omega | (simp only [Array.size_setIfInBounds]; omega)) ?_ | refine A0 (α := UInt16) 1 hG Y Y Y hT_cells hT_sc Y Y (by first | omega | (simp only [Array.size_setIfInBounds]; omega)) ?_ | refine Bh 0 hG Y Y Y Y Y Y Y ?_ | refine Bh 1 hG Y Y Y Y Y Y Y ?_ | refine Bh 2 hG Y Y Y Y Y Y Y ?_)
      | (show AOp _ _ ⟨_, .call ⟨.builtin .append, _, _⟩, _, _, _, _⟩ _ _ _; first | refine Cb (sz := 1) (xs := []) hG Y Y Y Y Y Y Y ⟨_, Y⟩ Y Y Y Y Y Y Y (by first | omega | (simp; omega)) (fun k => ?_) | refine r_appm 0 hG Y Y Y Y Y Y Y ⟨_, Y⟩ Y Y Y Y Y (by first | omega | (simp only [List.length_append, List.length_cons, List.length_nil]; omega)) (fun k => ?_) | fail)
      | refine r_q hG Y Y Y ?_))
    | (show AL _ _ _ _ _ _ _ _; first | refine Bi Y Y Y ?_ | (refine As ?_; first | show AW _ _ _ _ _ _ | show ∃ x', _ < _ ∧ _)) | (show AW _ _ (.seq _ _) _ _ _; refine Ai ?_; intro Q1) | (show AW _ _ (.region _ _ false) _ _ _; refine Ad ?_; intro O1) | (show AW _ _ (.cond _ _ _) _ _ _; first | refine Am Y ?_ | refine Al Y ?_ | refine Bd Y (fun h => ?_) (fun h => ?_)) | (show AW _ _ (.skip) _ _ _; refine Aj ?_; first | show AW _ _ _ _ _ _ | show ∃ x', _ < _ ∧ _) | (show AW _ _ (.block _ _) _ _ _; refine Af ?_; intro Q1) | (show AW _ _ (.exit _) _ _ _; refine Ar ?_; first | show AW _ _ _ _ _ _ | show ∃ x', _ < _ ∧ _) | (show AW _ _ (.ret) _ _ _; refine At ?_; try dsimp only [Ay, Ab, A6, Ah]) | fail)
          exact ⟨⟨q + 1, i', by omega⟩, by dsimp only; omega, .consW rfl (.eq (by dsimp only; rw [hks]; rfl)) (.cons rfl (.cons rfl (.cons rfl (.nil _)))), by
            dsimp only; rw [hks]
            exact keep_step (R' := []) (.cons_cons _ (List.sublist_cons_self _ _)) (List.nil_sublist _)⟩
        | cons z g =>
          repeat' (first
    | ((show AL _ _ _ _ _ _ _ _; refine Ae Y ?_); (first
      | refine Ap hG Y Y ?_
      | refine A3 hG Y Y ?_
      | (show AOp _ _ ⟨_, .call ⟨.builtin .len, _, _⟩, _, _, _, _⟩ _ _ _; first | refine Br hG Y Y Y Y ?_ | refine By hG Y Y Y Y Y ?_)
      | (show AOp _ _ ⟨_, .binOp .add _ _ _ _, _, _, _, _⟩ _ _ _; first | refine Ac hG Y Y Y Y Y (by omega) ?_ | refine Ac (m := 1) hG Y Y Y Y Y (by omega) ?_ | refine Aa hG Y Y Y Y Y (by omega) ?_)
      | (show AOp _ _ ⟨_, .binOp _ _ _ _ _, _, _, _, _⟩ _ _ _; first | refine Au hG Y Y Y Y Y (by omega) ?_ | refine Av hG Y Y Y Y Y (by omega) ?_ | (refine Ao hG Y Y Y Y Y (fun h => ?_) (fun h => ?_)) | refine Bj hG Y Y Y ?_ | refine Bw hG Y Y Y Y ?_)
      | (show AOp _ _ ⟨_, .load _ _, _, _, _, _⟩ _ _ _; first | refine A5 0 sbT hG Y Y Y Y Y (by omega) Y ?_ | refine A4 0 sbT hG Y Y Y Y Y (by omega) Y ?_ | refine A5 1 sbT hG Y Y Y Y Y (by omega) Y ?_ | refine A4 1 sbT hG Y Y Y Y Y (by omega) Y ?_ | refine A5 2 sbT hG Y Y Y Y Y (by omega) Y ?_ | refine A4 2 sbT hG Y Y Y Y Y (by omega) Y ?_ | refine A5 3 sbT hG Y Y Y Y Y (by omega) Y ?_ | refine A4 3 sbT hG Y Y Y Y Y (by omega) Y ?_ | refine Ak (α := UInt16) 0 hG Y Y Y Y (by omega) Y ?_ | refine Ak (α := UInt16) 1 hG Y Y Y Y (by omega) Y ?_ | refine Ax hG Y Y Y ?_ | refine A8 0 hG Y Y Y Y ?_ | refine A8 1 hG Y Y Y Y ?_ | refine A8 2 hG Y Y Y Y ?_)
      | (show AOp _ _ ⟨_, .indexAddr _ _ _, _, _, _, _⟩ _ _ _; first | refine Bz (sz := 4) hG Y Y Y Y Y Y Y (by omega) ?_ | refine A2 hG Y Y Y Y Y Y Y (by omega) ?_ | refine Aw hG Y Y Y Y Y Y Y (by omega) ?_ | refine Az hG Y Y Y Y Y Y Y (by omega) ?_ | refine A9 hG Y Y ?_)
      | (show AOp _ _ ⟨_, .buildSlice _ _ _, _, _, _, _⟩ _ _ _; first | refine r_mk (sz := 1) hG Y Y Y Y Y Y Y ?_)
      | (show AOp _ _ ⟨_, .alloc _, _, _, _, _⟩ _ _ _; refine B6 hG Y Y (fun i => ?_))
      | (show AOp _ _ ⟨_, .store _ _ _, _, _, _, _⟩ _ _ _; fail)
      | (show AOp _ _ ⟨_, .call ⟨.builtin .append, _, _⟩, _, _, _, _⟩ _ _ _; first | refine Cb (sz := 1) (xs := []) hG Y Y Y Y Y Y Y ⟨_, Y⟩ Y Y Y Y Y Y Y (by first | omega | (simp; omega)) (fun k => ?_) | refine r_appm 0 hG Y Y Y Y Y Y Y ⟨_, Y⟩ Y Y Y Y Y (by first | omega | (simp only [List.length_append, List.length_cons, List.length_nil]; omega)) (fun k => ?_) | fail)
      | refine r_q hG Y Y Y ?_))
    | (show AL _ _ _ _ _ _ _ _; first | refine Bi Y Y Y ?_ | (refine As ?_; first | show AW _ _ _ _ _ _ | show ∃ x', _ < _ ∧ _)) | (show AW _ _ (.seq _ _) _ _ _; refine Ai ?_; intro Q1) | (show AW _ _ (.region _ _ false) _ _ _; refine Ad ?_; intro O1) | (show AW _ _ (.cond _ _ _) _ _ _; first | refine Am Y ?_ | refine Al Y ?_ | refine Bd Y (fun h => ?_) (fun h => ?_)) | (show AW _ _ (.skip) _ _ _; refine Aj ?_; first | show AW _ _ _ _ _ _ | show ∃ x', _ < _ ∧ _) | (show AW _ _ (.block _ _) _ _ _; refine Af ?_; intro Q1) | (show AW _ _ (.exit _) _ _ _; refine Ar ?_; first | show AW _ _ _ _ _ _ | show ∃ x', _ < _ ∧ _) | (show AW _ _ (.ret) _ _ _; refine At ?_; try dsimp only [Ay, Ab, A6, Ah]) | fail)
          refine Ae rfl ?_
          refine Bh 0 (u := sbT (l.getD q default)) hG rfl rfl rfl (hsc _) rfl rfl rfl ?_
          repeat' (first
    | ((show AL _ _ _ _ _ _ _ _; refine Ae Y ?_); (first
      | refine Ap hG Y Y ?_
      | refine A3 hG Y Y ?_
      | (show AOp _ _ ⟨_, .call ⟨.builtin .len, _, _⟩, _, _, _, _⟩ _ _ _; first | refine Br hG Y Y Y Y ?_ | refine By hG Y Y Y Y Y ?_)
      | (show AOp _ _ ⟨_, .binOp .add _ _ _ _, _, _, _, _⟩ _ _ _; first | refine Ac hG Y Y Y Y Y (by omega) ?_ | refine Ac (m := 1) hG Y Y Y Y Y (by omega) ?_ | refine Aa hG Y Y Y Y Y (by omega) ?_)
      | (show AOp _ _ ⟨_, .binOp _ _ _ _ _, _, _, _, _⟩ _ _ _; first | refine Au hG Y Y Y Y Y (by omega) ?_ | refine Av hG Y Y Y Y Y (by omega) ?_ | (refine Ao hG Y Y Y Y Y (fun h => ?_) (fun h => ?_)) | refine Bj hG Y Y Y ?_ | refine Bw hG Y Y Y Y ?_)
      | (show AOp _ _ ⟨_, .load _ _, _, _, _, _⟩ _ _ _; first | refine A5 0 sbT hG Y Y Y Y Y (by omega) Y ?_ | refine A4 0 sbT hG Y Y Y Y Y (by omega) Y ?_ | refine A5 1 sbT hG Y Y Y Y Y (by omega) Y ?_ | refine A4 1 sbT hG Y Y Y Y Y (by omega) Y ?_ | refine A5 2 sbT hG Y Y Y Y Y (by omega) Y ?_ | refine A4 2 sbT hG Y Y Y Y Y (by omega) Y ?_ | refine A5 3 sbT hG Y Y Y Y Y (by omega) Y ?_ | refine A4 3 sbT hG Y Y Y Y Y (by omega) Y ?_ | refine Ak (α := UInt16) 0 hG Y Y Y Y (by omega) Y ?_ | refine Ak (α := UInt16) 1 hG Y Y Y Y (by omega) Y ?_ | refine Ax hG Y Y Y ?_ | refine A8 0 hG Y Y Y Y ?_ | refine A8 1 hG Y Y Y Y ?_ | refine A8 2 hG Y Y Y Y ?_)
      | (show AOp _ _ ⟨_, .indexAddr _ _ _, _, _, _, _⟩ _ _ _; first | refine Bz (sz := 4) hG Y Y Y Y Y Y Y (by omega) ?_ | refine A2 hG Y Y Y Y Y Y Y (by omega) ?_ | refine Aw hG Y Y Y Y Y Y Y (by omega) ?_ | refine Az hG Y Y Y Y Y Y Y (by omega) ?_ | refine A9 hG Y Y ?_)
      | (show AOp _ _ ⟨_, .buildSlice _ _ _, _, _, _, _⟩ _ _ _; first | refine r_mk (sz := 1) hG Y Y Y Y Y Y Y ?_)
      | (show AOp _ _ ⟨_, .alloc _, _, _, _, _⟩ _ _ _; refine B6 hG Y Y (fun i => ?_))
      | (show AOp _ _ ⟨_, .store _ _ _, _, _, _, _⟩ _ _ _; first | refine A0 (α := UInt16) 0 hG Y Y Y hT_cells hT_sc Y Y (by first | omega | (simp only [Array.size_setIfInBounds]; omega)) ?_ | refine A0 (α := UInt16) 1 hG Y Y Y hT_cells hT_sc Y Y (by first | omega | (simp only [Array.size_setIfInBounds]; omega)) ?_ | refine Bh 0 hG Y Y Y Y Y Y Y ?_ | refine Bh 1 hG Y Y Y Y Y Y Y ?_ | refine Bh 2 hG Y Y Y Y Y Y Y ?_)
      | (show AOp _ _ ⟨_, .call ⟨.builtin .append, _, _⟩, _, _, _, _⟩ _ _ _; fail)
      | refine r_q hG Y Y Y ?_))
    | (show AL _ _ _ _ _ _ _ _; first | refine Bi Y Y Y ?_ | (refine As ?_; first | show AW _ _ _ _ _ _ | show ∃ x', _ < _ ∧ _)) | (show AW _ _ (.seq _ _) _ _ _; refine Ai ?_; intro Q1) | (show AW _ _ (.region _ _ false) _ _ _; refine Ad ?_; intro O1) | (show AW _ _ (.cond _ _ _) _ _ _; first | refine Am Y ?_ | refine Al Y ?_ | refine Bd Y (fun h => ?_) (fun h => ?_)) | (show AW _ _ (.skip) _ _ _; refine Aj ?_; first | show AW _ _ _ _ _ _ | show ∃ x', _ < _ ∧ _) | (show AW _ _ (.block _ _) _ _ _; refine Af ?_; intro Q1) | (show AW _ _ (.exit _) _ _ _; refine Ar ?_; first | show AW _ _ _ _ _ _ | show ∃ x', _ < _ ∧ _) | (show AW _ _ (.ret) _ _ _; refine At ?_; try dsimp only [Ay, Ab, A6, Ah]) | fail)
          rotate_left
          · exact absurd (ht.symm.trans h) (by decide)
          refine Ae rfl (aop_appL (n := 1) (objs := fun _ => none) (ys := [mT (l.getD q default).id]) hG rfl rfl rfl rfl rfl ⟨_, rfl⟩ rfl rfl ?_ rfl (fun i o h => by cases h) rfl rfl ?_ ?_ rfl (fun i' hi' => ?_))
          · simp [rowT_length]
          · intro q' hq; simp [flat, T.cells, mT] at hq; subst hq; rfl
          · simp only [List.length_cons, List.length_nil] at *; omega
          repeat' (first
    | ((show AL _ _ _ _ _ _ _ _; refine Ae Y ?_); (first
      | refine Ap hG Y Y ?_
      | refine A3 hG Y Y ?_
      | (show AOp _ _ ⟨_, .call ⟨.builtin .len, _, _⟩, _, _, _, _⟩ _ _ _; first | refine Br hG Y Y Y Y ?_ | refine By hG Y Y Y Y Y ?_)
      | (show AOp _ _ ⟨_, .binOp .add _ _ _ _, _, _, _, _⟩ _ _ _; first | refine Ac hG Y Y Y Y Y (by omega) ?_ | refine Ac (m := 1) hG Y Y Y Y Y (by omega) ?_ | refine Aa hG Y Y Y Y Y (by omega) ?_)
      | (show AOp _ _ ⟨_, .binOp _ _ _ _ _, _, _, _, _⟩ _ _ _; first | refine Au hG Y Y Y Y Y (by omega) ?_ | refine Av hG Y Y Y Y Y (by omega) ?_ | (refine Ao hG Y Y Y Y Y (fun h => ?_) (fun h => ?_)) | refine Bj hG Y Y Y ?_ | refine Bw hG Y Y Y Y ?_)
      | (show AOp _ _ ⟨_, .load _ _, _, _, _, _⟩ _ _ _; first | refine A5 0 sbT hG Y Y Y Y Y (by omega) Y ?_ | refine A4 0 sbT hG Y Y Y Y Y (by omega) Y ?_ | refine A5 1 sbT hG Y Y Y Y Y (by omega) Y ?_ | refine A4 1 sbT hG Y Y Y Y Y (by omega) Y ?_ | refine A5 2 sbT hG Y Y Y Y Y (by omega) Y ?_ | refine A4 2 sbT hG Y Y Y Y Y (by omega) Y ?_ | refine A5 3 sbT hG Y Y Y Y Y (by omega) Y ?_ | refine A4 3 sbT hG Y Y Y Y Y (by omega) Y ?_ | refine Ak (α := UInt16) 0 hG Y Y Y Y (by omega) Y ?_ | refine Ak (α := UInt16) 1 hG Y Y Y Y (by omega) Y ?_ | refine Ax hG Y Y Y ?_ | refine A8 0 hG Y Y Y Y ?_ | refine A8 1 hG Y Y Y Y ?_ | refine A8 2 hG Y Y Y Y ?_)
      | (show AOp _ _ ⟨_, .indexAddr _ _ _, _, _, _, _⟩ _ _ _; first | refine Bz (sz := 4) hG Y Y Y Y Y Y Y (by omega) ?_ | refine A2 hG Y Y Y Y Y Y Y (by omega) ?_ | refine Aw hG Y Y Y Y Y Y Y (by omega) ?_ | refine Az hG Y Y Y Y Y Y Y (by omega) ?_ | refine A9 hG Y Y ?_)
      | (show AOp _ _ ⟨_, .buildSlice _ _ _, _, _, _, _⟩ _ _ _; first | refine r_mk (sz := 1) hG Y Y Y Y Y Y Y ?_)
      | (show AOp _ _ ⟨_, .alloc _, _, _, _, _⟩ _ _ _; refine B6 hG Y Y (fun i => ?_))
      | (show AOp _ _ ⟨_, .store _ _ _, _, _, _, _⟩ _ _ _; first | refine A0 (α := UInt16) 0 hG Y Y Y hT_cells hT_sc Y Y (by first | omega | (simp only [Array.size_setIfInBounds]; omega)) ?_ | refine A0 (α := UInt16) 1 hG Y Y Y hT_cells hT_sc Y Y (by first | omega | (simp only [Array.size_setIfInBounds]; omega)) ?_ | refine Bh 0 hG Y Y Y Y Y Y Y ?_ | refine Bh 1 hG Y Y Y Y Y Y Y ?_ | refine Bh 2 hG Y Y Y Y Y Y Y ?_)
      | (show AOp _ _ ⟨_, .call ⟨.builtin .append, _, _⟩, _, _, _, _⟩ _ _ _; first | refine Cb (sz := 1) (xs := []) hG Y Y Y Y Y Y Y ⟨_, Y⟩ Y Y Y Y Y Y Y (by first | omega | (simp; omega)) (fun k => ?_) | refine r_appm 0 hG Y Y Y Y Y Y Y ⟨_, Y⟩ Y Y Y Y Y (by first | omega | (simp only [List.length_append, List.length_cons, List.length_nil]; omega)) (fun k => ?_) | fail)
      | refine r_q hG Y Y Y ?_))
    | (show AL _ _ _ _ _ _ _ _; first | refine Bi Y Y Y ?_ | (refine As ?_; first | show AW _ _ _ _ _ _ | show ∃ x', _ < _ ∧ _)) | (show AW _ _ (.seq _ _) _ _ _; refine Ai ?_; intro Q1) | (show AW _ _ (.region _ _ false) _ _ _; refine Ad ?_; intro O1) | (show AW _ _ (.cond _ _ _) _ _ _; first | refine Am Y ?_ | refine Al Y ?_ | refine Bd Y (fun h => ?_) (fun h => ?_)) | (show AW _ _ (.skip) _ _ _; refine Aj ?_; first | show AW _ _ _ _ _ _ | show ∃ x', _ < _ ∧ _) | (show AW _ _ (.block _ _) _ _ _; refine Af ?_; intro Q1) | (show AW _ _ (.exit _) _ _ _; refine Ar ?_; first | show AW _ _ _ _ _ _ | show ∃ x', _ < _ ∧ _) | (show AW _ _ (.ret) _ _ _; refine At ?_; try dsimp only [Ay, Ab, A6, Ah]) | fail)
          exact ⟨⟨q + 1, i', by omega⟩, by dsimp only; omega, .consW rfl (.eq (by dsimp only; rw [hks]; simp [bE])) (.cons rfl (.cons rfl (.cons rfl (.nil _)))), by
            dsimp only; rw [hks]
            refine Go.Ts.GStep.trans (σ1 := ⟨(i', .cells ((rowT mT (z :: g).toArray).drop 0 ++ flat [mT (l.getD q default).id])) :: [(p, .cells [bT v, .aref 4 ri 0 l.length none, .map (some m)]), (m, .map (at'.map kvT)), (ri, .cells (flat (l.map sbT)))], [], off, none⟩) (keep_step (R' := []) (.cons_cons _ (List.sublist_cons_self _ _)) (List.nil_sublist _)) ?_
            rw [rowN_snoc]; exact .refl _⟩
      | false =>
        rw [if_neg (by rw [ht]; exact Bool.false_ne_true), List.append_nil] at hks
        cases g with
        | nil =>
          repeat' (first
    | ((show AL _ _ _ _ _ _ _ _; refine Ae Y ?_); (first
      | refine Ap hG Y Y ?_
      | refine A3 hG Y Y ?_
      | (show AOp _ _ ⟨_, .call ⟨.builtin .len, _, _⟩, _, _, _, _⟩ _ _ _; first | refine Br hG Y Y Y Y ?_ | refine By hG Y Y Y Y Y ?_)
      | (show AOp _ _ ⟨_, .binOp .add _ _ _ _, _, _, _, _⟩ _ _ _; first | refine Ac hG Y Y Y Y Y (by omega) ?_ | refine Ac (m := 1) hG Y Y Y Y Y (by omega) ?_ | refine Aa hG Y Y Y Y Y (by omega) ?_)
      | (show AOp _ _ ⟨_, .binOp _ _ _ _ _, _, _, _, _⟩ _ _ _; first | refine Au hG Y Y Y Y Y (by omega) ?_ | refine Av hG Y Y Y Y Y (by omega) ?_ | (refine Ao hG Y Y Y Y Y (fun h => ?_) (fun h => ?_)) | refine Bj hG Y Y Y ?_ | refine Bw hG Y Y Y Y ?_)
      | (show AOp _ _ ⟨_, .load _ _, _, _, _, _⟩ _ _ _; first | refine A5 0 sbT hG Y Y Y Y Y (by omega) Y ?_ | refine A4 0 sbT hG Y Y Y Y Y (by omega) Y ?_ | refine A5 1 sbT hG Y Y Y Y Y (by omega) Y ?_ | refine A4 1 sbT hG Y Y Y Y Y (by omega) Y ?_ | refine A5 2 sbT hG Y Y Y Y Y (by omega) Y ?_ | refine A4 2 sbT hG Y Y Y Y Y (by omega) Y ?_ | refine A5 3 sbT hG Y Y Y Y Y (by omega) Y ?_ | refine A4 3 sbT hG Y Y Y Y Y (by omega) Y ?_ | refine Ak (α := UInt16) 0 hG Y Y Y Y (by omega) Y ?_ | refine Ak (α := UInt16) 1 hG Y Y Y Y (by omega) Y ?_ | refine Ax hG Y Y Y ?_ | refine A8 0 hG Y Y Y Y ?_ | refine A8 1 hG Y Y Y Y ?_ | refine A8 2 hG Y Y Y Y ?_)
      | (show AOp _ _ ⟨_, .indexAddr _ _ _, _, _, _, _⟩ _ _ _; first | refine Bz (sz := 4) hG Y Y Y Y Y Y Y (by omega) ?_ | refine A2 hG Y Y Y Y Y Y Y (by omega) ?_ | refine Aw hG Y Y Y Y Y Y Y (by omega) ?_ | refine Az hG Y Y Y Y Y Y Y (by omega) ?_ | refine A9 hG Y Y ?_)
      | (show AOp _ _ ⟨_, .buildSlice _ _ _, _, _, _, _⟩ _ _ _; first | refine r_mk (sz := 1) hG Y Y Y Y Y Y Y ?_)
      | (show AOp _ _ ⟨_, .alloc _, _, _, _, _⟩ _ _ _; refine B6 hG Y Y (fun i => ?_))
      | (show AOp _ _ ⟨_, .store _ _ _, _, _, _, _⟩ _ _ _; fail)
      | (show AOp _ _ ⟨_, .call ⟨.builtin .append, _, _⟩, _, _, _, _⟩ _ _ _; first | refine Cb (sz := 1) (xs := []) hG Y Y Y Y Y Y Y ⟨_, Y⟩ Y Y Y Y Y Y Y (by first | omega | (simp; omega)) (fun k => ?_) | refine r_appm 0 hG Y Y Y Y Y Y Y ⟨_, Y⟩ Y Y Y Y Y (by first | omega | (simp only [List.length_append, List.length_cons, List.length_nil]; omega)) (fun k => ?_) | fail)
      | refine r_q hG Y Y Y ?_))
    | (show AL _ _ _ _ _ _ _ _; first | refine Bi Y Y Y ?_ | (refine As ?_; first | show AW _ _ _ _ _ _ | show ∃ x', _ < _ ∧ _)) | (show AW _ _ (.seq _ _) _ _ _; refine Ai ?_; intro Q1) | (show AW _ _ (.region _ _ false) _ _ _; refine Ad ?_; intro O1) | (show AW _ _ (.cond _ _ _) _ _ _; first | refine Am Y ?_ | refine Al Y ?_ | refine Bd Y (fun h => ?_) (fun h => ?_)) | (show AW _ _ (.skip) _ _ _; refine Aj ?_; first | show AW _ _ _ _ _ _ | show ∃ x', _ < _ ∧ _) | (show AW _ _ (.block _ _) _ _ _; refine Af ?_; intro Q1) | (show AW _ _ (.exit _) _ _ _; refine Ar ?_; first | show AW _ _ _ _ _ _ | show ∃ x', _ < _ ∧ _) | (show AW _ _ (.ret) _ _ _; refine At ?_; try dsimp only [Ay, Ab, A6, Ah]) | fail)
          refine Ae rfl ?_
          refine Bh 0 (u := sbT (l.getD q default)) hG rfl rfl rfl (hsc _) rfl rfl rfl ?_
          repeat' (first
    | ((show AL _ _ _ _ _ _ _ _; refine Ae Y ?_); (first
      | refine Ap hG Y Y ?_
      | refine A3 hG Y Y ?_
      | (show AOp _ _ ⟨_, .call ⟨.builtin .len, _, _⟩, _, _, _, _⟩ _ _ _; first | refine Br hG Y Y Y Y ?_ | refine By hG Y Y Y Y Y ?_)
      | (show AOp _ _ ⟨_, .binOp .add _ _ _ _, _, _, _, _⟩ _ _ _; first | refine Ac hG Y Y Y Y Y (by omega) ?_ | refine Ac (m := 1) hG Y Y Y Y Y (by omega) ?_ | refine Aa hG Y Y Y Y Y (by omega) ?_)
      | (show AOp _ _ ⟨_, .binOp _ _ _ _ _, _, _, _, _⟩ _ _ _; first | refine Au hG Y Y Y Y Y (by omega) ?_ | refine Av hG Y Y Y Y Y (by omega) ?_ | (refine Ao hG Y Y Y Y Y (fun h => ?_) (fun h => ?_)) | refine Bj hG Y Y Y ?_ | refine Bw hG Y Y Y Y ?_)
      | (show AOp _ _ ⟨_, .load _ _, _, _, _, _⟩ _ _ _; first | refine A5 0 sbT hG Y Y Y Y Y (by omega) Y ?_ | refine A4 0 sbT hG Y Y Y Y Y (by omega) Y ?_ | refine A5 1 sbT hG Y Y Y Y Y (by omega) Y ?_ | refine A4 1 sbT hG Y Y Y Y Y (by omega) Y ?_ | refine A5 2 sbT hG Y Y Y Y Y (by omega) Y ?_ | refine A4 2 sbT hG Y Y Y Y Y (by omega) Y ?_ | refine A5 3 sbT hG Y Y Y Y Y (by omega) Y ?_ | refine A4 3 sbT hG Y Y Y Y Y (by omega) Y ?_ | refine Ak (α := UInt16) 0 hG Y Y Y Y (by omega) Y ?_ | refine Ak (α := UInt16) 1 hG Y Y Y Y (by omega) Y ?_ | refine Ax hG Y Y Y ?_ | refine A8 0 hG Y Y Y Y ?_ | refine A8 1 hG Y Y Y Y ?_ | refine A8 2 hG Y Y Y Y ?_)
      | (show AOp _ _ ⟨_, .indexAddr _ _ _, _, _, _, _⟩ _ _ _; first | refine Bz (sz := 4) hG Y Y Y Y Y Y Y (by omega) ?_ | refine A2 hG Y Y Y Y Y Y Y (by omega) ?_ | refine Aw hG Y Y Y Y Y Y Y (by omega) ?_ | refine Az hG Y Y Y Y Y Y Y (by omega) ?_ | refine A9 hG Y Y ?_)
      | (show AOp _ _ ⟨_, .buildSlice _ _ _, _, _, _, _⟩ _ _ _; first | refine r_mk (sz := 1) hG Y Y Y Y Y Y Y ?_)
      | (show AOp _ _ ⟨_, .alloc _, _, _, _, _⟩ _ _ _; refine B6 hG Y Y (fun i => ?_))
      | (show AOp _ _ ⟨_, .store _ _ _, _, _, _, _⟩ _ _ _; first | refine A0 (α := UInt16) 0 hG Y Y Y hT_cells hT_sc Y Y (by first | omega | (simp only [Array.size_setIfInBounds]; omega)) ?_ | refine A0 (α := UInt16) 1 hG Y Y Y hT_cells hT_sc Y Y (by first | omega | (simp only [Array.size_setIfInBounds]; omega)) ?_ | refine Bh 0 hG Y Y Y Y Y Y Y ?_ | refine Bh 1 hG Y Y Y Y Y Y Y ?_ | refine Bh 2 hG Y Y Y Y Y Y Y ?_)
      | (show AOp _ _ ⟨_, .call ⟨.builtin .append, _, _⟩, _, _, _, _⟩ _ _ _; first | refine Cb (sz := 1) (xs := []) hG Y Y Y Y Y Y Y ⟨_, Y⟩ Y Y Y Y Y Y Y (by first | omega | (simp; omega)) (fun k => ?_) | refine r_appm 0 hG Y Y Y Y Y Y Y ⟨_, Y⟩ Y Y Y Y Y (by first | omega | (simp only [List.length_append, List.length_cons, List.length_nil]; omega)) (fun k => ?_) | fail)
      | refine r_q hG Y Y Y ?_))
    | (show AL _ _ _ _ _ _ _ _; first | refine Bi Y Y Y ?_ | (refine As ?_; first | show AW _ _ _ _ _ _ | show ∃ x', _ < _ ∧ _)) | (show AW _ _ (.seq _ _) _ _ _; refine Ai ?_; intro Q1) | (show AW _ _ (.region _ _ false) _ _ _; refine Ad ?_; intro O1) | (show AW _ _ (.cond _ _ _) _ _ _; first | refine Am Y ?_ | refine Al Y ?_ | refine Bd Y (fun h => ?_) (fun h => ?_)) | (show AW _ _ (.skip) _ _ _; refine Aj ?_; first | show AW _ _ _ _ _ _ | show ∃ x', _ < _ ∧ _) | (show AW _ _ (.block _ _) _ _ _; refine Af ?_; intro Q1) | (show AW _ _ (.exit _) _ _ _; refine Ar ?_; first | show AW _ _ _ _ _ _ | show ∃ x', _ < _ ∧ _) | (show AW _ _ (.ret) _ _ _; refine At ?_; try dsimp only [Ay, Ab, A6, Ah]) | fail)
          · exact absurd (ht.symm.trans h) (by decide)
          exact ⟨⟨q + 1, y, by omega⟩, by dsimp only; omega, .consW rfl (.eq (by dsimp only; rw [hks])) (.cons rfl (.cons rfl (.cons rfl (.nil _)))), by
            dsimp only; rw [hks]
            exact keep_step (R' := []) (List.sublist_cons_self _ _) (List.nil_sublist _)⟩
        | cons z g =>
          repeat' (first
    | ((show AL _ _ _ _ _ _ _ _; refine Ae Y ?_); (first
      | refine Ap hG Y Y ?_
      | refine A3 hG Y Y ?_
      | (show AOp _ _ ⟨_, .call ⟨.builtin .len, _, _⟩, _, _, _, _⟩ _ _ _; first | refine Br hG Y Y Y Y ?_ | refine By hG Y Y Y Y Y ?_)
      | (show AOp _ _ ⟨_, .binOp .add _ _ _ _, _, _, _, _⟩ _ _ _; first | refine Ac hG Y Y Y Y Y (by omega) ?_ | refine Ac (m := 1) hG Y Y Y Y Y (by omega) ?_ | refine Aa hG Y Y Y Y Y (by omega) ?_)
      | (show AOp _ _ ⟨_, .binOp _ _ _ _ _, _, _, _, _⟩ _ _ _; first | refine Au hG Y Y Y Y Y (by omega) ?_ | refine Av hG Y Y Y Y Y (by omega) ?_ | (refine Ao hG Y Y Y Y Y (fun h => ?_) (fun h => ?_)) | refine Bj hG Y Y Y ?_ | refine Bw hG Y Y Y Y ?_)
      | (show AOp _ _ ⟨_, .load _ _, _, _, _, _⟩ _ _ _; first | refine A5 0 sbT hG Y Y Y Y Y (by omega) Y ?_ | refine A4 0 sbT hG Y Y Y Y Y (by omega) Y ?_ | refine A5 1 sbT hG Y Y Y Y Y (by omega) Y ?_ | refine A4 1 sbT hG Y Y Y Y Y (by omega) Y ?_ | refine A5 2 sbT hG Y Y Y Y Y (by omega) Y ?_ | refine A4 2 sbT hG Y Y Y Y Y (by omega) Y ?_ | refine A5 3 sbT hG Y Y Y Y Y (by omega) Y ?_ | refine A4 3 sbT hG Y Y Y Y Y (by omega) Y ?_ | refine Ak (α := UInt16) 0 hG Y Y Y Y (by omega) Y ?_ | refine Ak (α := UInt16) 1 hG Y Y Y Y (by omega) Y ?_ | refine Ax hG Y Y Y ?_ | refine A8 0 hG Y Y Y Y ?_ | refine A8 1 hG Y Y Y Y ?_ | refine A8 2 hG Y Y Y Y ?_)
      | (show AOp _ _ ⟨_, .indexAddr _ _ _, _, _, _, _⟩ _ _ _; first | refine Bz (sz := 4) hG Y Y Y Y Y Y Y (by omega) ?_ | refine A2 hG Y Y Y Y Y Y Y (by omega) ?_ | refine Aw hG Y Y Y Y Y Y Y (by omega) ?_ | refine Az hG Y Y Y Y Y Y Y (by omega) ?_ | refine A9 hG Y Y ?_)
      | (show AOp _ _ ⟨_, .buildSlice _ _ _, _, _, _, _⟩ _ _ _; first | refine r_mk (sz := 1) hG Y Y Y Y Y Y Y ?_)
      | (show AOp _ _ ⟨_, .alloc _, _, _, _, _⟩ _ _ _; refine B6 hG Y Y (fun i => ?_))
      | (show AOp _ _ ⟨_, .store _ _ _, _, _, _, _⟩ _ _ _; fail)
      | (show AOp _ _ ⟨_, .call ⟨.builtin .append, _, _⟩, _, _, _, _⟩ _ _ _; first | refine Cb (sz := 1) (xs := []) hG Y Y Y Y Y Y Y ⟨_, Y⟩ Y Y Y Y Y Y Y (by first | omega | (simp; omega)) (fun k => ?_) | refine r_appm 0 hG Y Y Y Y Y Y Y ⟨_, Y⟩ Y Y Y Y Y (by first | omega | (simp only [List.length_append, List.length_cons, List.length_nil]; omega)) (fun k => ?_) | fail)
      | refine r_q hG Y Y Y ?_))
    | (show AL _ _ _ _ _ _ _ _; first | refine Bi Y Y Y ?_ | (refine As ?_; first | show AW _ _ _ _ _ _ | show ∃ x', _ < _ ∧ _)) | (show AW _ _ (.seq _ _) _ _ _; refine Ai ?_; intro Q1) | (show AW _ _ (.region _ _ false) _ _ _; refine Ad ?_; intro O1) | (show AW _ _ (.cond _ _ _) _ _ _; first | refine Am Y ?_ | refine Al Y ?_ | refine Bd Y (fun h => ?_) (fun h => ?_)) | (show AW _ _ (.skip) _ _ _; refine Aj ?_; first | show AW _ _ _ _ _ _ | show ∃ x', _ < _ ∧ _) | (show AW _ _ (.block _ _) _ _ _; refine Af ?_; intro Q1) | (show AW _ _ (.exit _) _ _ _; refine Ar ?_; first | show AW _ _ _ _ _ _ | show ∃ x', _ < _ ∧ _) | (show AW _ _ (.ret) _ _ _; refine At ?_; try dsimp only [Ay, Ab, A6, Ah]) | fail)
          refine Ae rfl ?_
          refine Bh 0 (u := sbT (l.getD q default)) hG rfl rfl rfl (hsc _) rfl rfl rfl ?_
          repeat' (first
    | ((show AL _ _ _ _ _ _ _ _; refine Ae Y ?_); (first
      | refine Ap hG Y Y ?_
      | refine A3 hG Y Y ?_
      | (show AOp _ _ ⟨_, .call ⟨.builtin .len, _, _⟩, _, _, _, _⟩ _ _ _; first | refine Br hG Y Y Y Y ?_ | refine By hG Y Y Y Y Y ?_)
      | (show AOp _ _ ⟨_, .binOp .add _ _ _ _, _, _, _, _⟩ _ _ _; first | refine Ac hG Y Y Y Y Y (by omega) ?_ | refine Ac (m := 1) hG Y Y Y Y Y (by omega) ?_ | refine Aa hG Y Y Y Y Y (by omega) ?_)
      | (show AOp _ _ ⟨_, .binOp _ _ _ _ _, _, _, _, _⟩ _ _ _; first | refine Au hG Y Y Y Y Y (by omega) ?_ | refine Av hG Y Y Y Y Y (by omega) ?_ | (refine Ao hG Y Y Y Y Y (fun h => ?_) (fun h => ?_)) | refine Bj hG Y Y Y ?_ | refine Bw hG Y Y Y Y ?_)
      | (show AOp _ _ ⟨_, .load _ _, _, _, _, _⟩ _ _ _; first | refine A5 0 sbT hG Y Y Y Y Y (by omega) Y ?_ | refine A4 0 sbT hG Y Y Y Y Y (by omega) Y ?_ | refine A5 1 sbT hG Y Y Y Y Y (by omega) Y ?_ | refine A4 1 sbT hG Y Y Y Y Y (by omega) Y ?_ | refine A5 2 sbT hG Y Y Y Y Y (by omega) Y ?_ | refine A4 2 sbT hG Y Y Y Y Y (by omega) Y ?_ | refine A5 3 sbT hG Y Y Y Y Y (by omega) Y ?_ | refine A4 3 sbT hG Y Y Y Y Y (by omega) Y ?_ | refine Ak (α := UInt16) 0 hG Y Y Y Y (by omega) Y ?_ | refine Ak (α := UInt16) 1 hG Y Y Y Y (by omega) Y ?_ | refine Ax hG Y Y Y ?_ | refine A8 0 hG Y Y Y Y ?_ | refine A8 1 hG Y Y Y Y ?_ | refine A8 2 hG Y Y Y Y ?_)
      | (show AOp _ _ ⟨_, .indexAddr _ _ _, _, _, _, _⟩ _ _ _; first | refine Bz (sz := 4) hG Y Y Y Y Y Y Y (by omega) ?_ | refine A2 hG Y Y Y Y Y Y Y (by omega) ?_ | refine Aw hG Y Y Y Y Y Y Y (by omega) ?_ | refine Az hG Y Y Y Y Y Y Y (by omega) ?_ | refine A9 hG Y Y ?_)
      | (show AOp _ _ ⟨_, .buildSlice _ _ _, _, _, _, _⟩ _ _ _; first | refine r_mk (sz := 1) hG Y Y Y Y Y Y Y ?_)
      | (show AOp _ _ ⟨_, .alloc _, _, _, _, _⟩ _ _ _; refine B6 hG Y Y (fun i => ?_))
      | (show AOp _ _ ⟨_, .store _ _ _, _, _, _, _⟩ _ _ _; first | refine A0 (α := UInt16) 0 hG Y Y Y hT_cells hT_sc Y Y (by first | omega | (simp only [Array.size_setIfInBounds]; omega)) ?_ | refine A0 (α := UInt16) 1 hG Y Y Y hT_cells hT_sc Y Y (by first | omega | (simp only [Array.size_setIfInBounds]; omega)) ?_ | refine Bh 0 hG Y Y Y Y Y Y Y ?_ | refine Bh 1 hG Y Y Y Y Y Y Y ?_ | refine Bh 2 hG Y Y Y Y Y Y Y ?_)
      | (show AOp _ _ ⟨_, .call ⟨.builtin .append, _, _⟩, _, _, _, _⟩ _ _ _; first | refine Cb (sz := 1) (xs := []) hG Y Y Y Y Y Y Y ⟨_, Y⟩ Y Y Y Y Y Y Y (by first | omega | (simp; omega)) (fun k => ?_) | refine r_appm 0 hG Y Y Y Y Y Y Y ⟨_, Y⟩ Y Y Y Y Y (by first | omega | (simp only [List.length_append, List.length_cons, List.length_nil]; omega)) (fun k => ?_) | fail)
      | refine r_q hG Y Y Y ?_))
    | (show AL _ _ _ _ _ _ _ _; first | refine Bi Y Y Y ?_ | (refine As ?_; first | show AW _ _ _ _ _ _ | show ∃ x', _ < _ ∧ _)) | (show AW _ _ (.seq _ _) _ _ _; refine Ai ?_; intro Q1) | (show AW _ _ (.region _ _ false) _ _ _; refine Ad ?_; intro O1) | (show AW _ _ (.cond _ _ _) _ _ _; first | refine Am Y ?_ | refine Al Y ?_ | refine Bd Y (fun h => ?_) (fun h => ?_)) | (show AW _ _ (.skip) _ _ _; refine Aj ?_; first | show AW _ _ _ _ _ _ | show ∃ x', _ < _ ∧ _) | (show AW _ _ (.block _ _) _ _ _; refine Af ?_; intro Q1) | (show AW _ _ (.exit _) _ _ _; refine Ar ?_; first | show AW _ _ _ _ _ _ | show ∃ x', _ < _ ∧ _) | (show AW _ _ (.ret) _ _ _; refine At ?_; try dsimp only [Ay, Ab, A6, Ah]) | fail)
          · exact absurd (ht.symm.trans h) (by decide)
          exact ⟨⟨q + 1, y, by omega⟩, by dsimp only; omega, .consW rfl (.eq (by dsimp only; rw [hks])) (.cons rfl (.cons rfl (.cons rfl (.nil _)))), by
            dsimp only; rw [hks]
            exact keep_step (R' := []) (List.sublist_cons_self _ _) (List.nil_sublist _)⟩
    · have hqe : l.take q = l := List.take_of_length_le (by omega)
      rw [hqe] at hgl ⊢
      obtain ⟨g, hg⟩ : ∃ g, namesOf l = g := ⟨_, rfl⟩
      have hR : idsA l = srtL g := by unfold idsA; rw [hg]
      rw [hg] at hgl ⊢
      have hgl2 := srtL_len g
      cases g with
      | nil =>
        have hs0 := sort0
        repeat' (first
    | ((show AL _ _ _ _ _ _ _ _; refine Ae Y ?_); (first
      | refine Ap hG Y Y ?_
      | refine A3 hG Y Y ?_
      | (show AOp _ _ ⟨_, .call ⟨.builtin .len, _, _⟩, _, _, _, _⟩ _ _ _; first | refine Br hG Y Y Y Y ?_ | refine By hG Y Y Y Y Y ?_)
      | (show AOp _ _ ⟨_, .binOp .add _ _ _ _, _, _, _, _⟩ _ _ _; first | refine Ac hG Y Y Y Y Y (by omega) ?_ | refine Ac (m := 1) hG Y Y Y Y Y (by omega) ?_ | refine Aa hG Y Y Y Y Y (by omega) ?_)
      | (show AOp _ _ ⟨_, .binOp _ _ _ _ _, _, _, _, _⟩ _ _ _; first | refine Au hG Y Y Y Y Y (by omega) ?_ | refine Av hG Y Y Y Y Y (by omega) ?_ | (refine Ao hG Y Y Y Y Y (fun h => ?_) (fun h => ?_)) | refine Bj hG Y Y Y ?_ | refine Bw hG Y Y Y Y ?_)
      | (show AOp _ _ ⟨_, .load _ _, _, _, _, _⟩ _ _ _; first | refine A5 0 sbT hG Y Y Y Y Y (by omega) Y ?_ | refine A4 0 sbT hG Y Y Y Y Y (by omega) Y ?_ | refine A5 1 sbT hG Y Y Y Y Y (by omega) Y ?_ | refine A4 1 sbT hG Y Y Y Y Y (by omega) Y ?_ | refine A5 2 sbT hG Y Y Y Y Y (by omega) Y ?_ | refine A4 2 sbT hG Y Y Y Y Y (by omega) Y ?_ | refine A5 3 sbT hG Y Y Y Y Y (by omega) Y ?_ | refine A4 3 sbT hG Y Y Y Y Y (by omega) Y ?_ | refine Ak (α := UInt16) 0 hG Y Y Y Y (by omega) Y ?_ | refine Ak (α := UInt16) 1 hG Y Y Y Y (by omega) Y ?_ | refine Ax hG Y Y Y ?_ | refine A8 0 hG Y Y Y Y ?_ | refine A8 1 hG Y Y Y Y ?_ | refine A8 2 hG Y Y Y Y ?_)
      | (show AOp _ _ ⟨_, .indexAddr _ _ _, _, _, _, _⟩ _ _ _; first | refine Bz (sz := 4) hG Y Y Y Y Y Y Y (by omega) ?_ | refine A2 hG Y Y Y Y Y Y Y (by omega) ?_ | refine Aw hG Y Y Y Y Y Y Y (by omega) ?_ | refine Az hG Y Y Y Y Y Y Y (by omega) ?_ | refine A9 hG Y Y ?_)
      | (show AOp _ _ ⟨_, .buildSlice _ _ _, _, _, _, _⟩ _ _ _; first | refine r_mk (sz := 1) hG Y Y Y Y Y Y Y ?_)
      | (show AOp _ _ ⟨_, .alloc _, _, _, _, _⟩ _ _ _; refine B6 hG Y Y (fun i => ?_))
      | (show AOp _ _ ⟨_, .store _ _ _, _, _, _, _⟩ _ _ _; first | refine A0 (α := UInt16) 0 hG Y Y Y hT_cells hT_sc Y Y (by first | omega | (simp only [Array.size_setIfInBounds]; omega)) ?_ | refine A0 (α := UInt16) 1 hG Y Y Y hT_cells hT_sc Y Y (by first | omega | (simp only [Array.size_setIfInBounds]; omega)) ?_ | refine Bh 0 hG Y Y Y Y Y Y Y ?_ | refine Bh 1 hG Y Y Y Y Y Y Y ?_ | refine Bh 2 hG Y Y Y Y Y Y Y ?_)
      | (show AOp _ _ ⟨_, .call ⟨.builtin .append, _, _⟩, _, _, _, _⟩ _ _ _; first | refine Cb (sz := 1) (xs := []) hG Y Y Y Y Y Y Y ⟨_, Y⟩ Y Y Y Y Y Y Y (by first | omega | (simp; omega)) (fun k => ?_) | refine r_appm 0 hG Y Y Y Y Y Y Y ⟨_, Y⟩ Y Y Y Y Y (by first | omega | (simp only [List.length_append, List.length_cons, List.length_nil]; omega)) (fun k => ?_) | fail)
      | (show AOp _ _ ⟨_, .call ⟨.value _, _, _⟩, _, _, _, _⟩ _ _ _; first | refine B0 Y Y Y Y Y (by first | (apply hs0 <;> (first | assumption | omega | exact Bf _ _ | exact Bo _ | exact Bk _ _ | exact Bs _ | rfl | (simp; omega))) | fail) ?_ | fail)
      | refine r_q hG Y Y Y ?_))
    | (show AL _ _ _ _ _ _ _ _; first | refine Bi Y Y Y ?_ | (refine As ?_; first | show AW _ _ _ _ _ _ | show ∃ x', _ < _ ∧ _)) | (show AW _ _ (.seq _ _) _ _ _; refine Ai ?_; intro Q1) | (show AW _ _ (.region _ _ false) _ _ _; refine Ad ?_; intro O1) | (show AW _ _ (.cond _ _ _) _ _ _; first | refine Am Y ?_ | refine Al Y ?_ | refine Bd Y (fun h => ?_) (fun h => ?_)) | (show AW _ _ (.skip) _ _ _; refine Aj ?_; first | show AW _ _ _ _ _ _ | show ∃ x', _ < _ ∧ _) | (show AW _ _ (.block _ _) _ _ _; refine Af ?_; intro Q1) | (show AW _ _ (.exit _) _ _ _; refine Ar ?_; first | show AW _ _ _ _ _ _ | show ∃ x', _ < _ ∧ _) | (show AW _ _ (.ret) _ _ _; refine At ?_; try dsimp only [Ay, Ab, A6, Ah]) | fail)
        refine ret_onL (Bq rfl Bl) (.refl _) (.refl _) (.nil 1) rfl ⟨?_, rfl⟩
        rw [hR, List.length_eq_zero_iff.1 hgl2]; rfl
      | cons z g =>
        have hs1 := srt_sort (d0 := (z :: g).toArray) (by simp at hgl ⊢; omega)
        have hsz : (z :: g).toArray.size = (z :: g).length := rfl
        repeat' (first
    | ((show AL _ _ _ _ _ _ _ _; refine Ae Y ?_); (first
      | refine Ap hG Y Y ?_
      | refine A3 hG Y Y ?_
      | (show AOp _ _ ⟨_, .call ⟨.builtin .len, _, _⟩, _, _, _, _⟩ _ _ _; first | refine Br hG Y Y Y Y ?_ | refine By hG Y Y Y Y Y ?_)
      | (show AOp _ _ ⟨_, .binOp .add _ _ _ _, _, _, _, _⟩ _ _ _; first | refine Ac hG Y Y Y Y Y (by omega) ?_ | refine Ac (m := 1) hG Y Y Y Y Y (by omega) ?_ | refine Aa hG Y Y Y Y Y (by omega) ?_)
      | (show AOp _ _ ⟨_, .binOp _ _ _ _ _, _, _, _, _⟩ _ _ _; first | refine Au hG Y Y Y Y Y (by omega) ?_ | refine Av hG Y Y Y Y Y (by omega) ?_ | (refine Ao hG Y Y Y Y Y (fun h => ?_) (fun h => ?_)) | refine Bj hG Y Y Y ?_ | refine Bw hG Y Y Y Y ?_)
      | (show AOp _ _ ⟨_, .load _ _, _, _, _, _⟩ _ _ _; first | refine A5 0 sbT hG Y Y Y Y Y (by omega) Y ?_ | refine A4 0 sbT hG Y Y Y Y Y (by omega) Y ?_ | refine A5 1 sbT hG Y Y Y Y Y (by omega) Y ?_ | refine A4 1 sbT hG Y Y Y Y Y (by omega) Y ?_ | refine A5 2 sbT hG Y Y Y Y Y (by omega) Y ?_ | refine A4 2 sbT hG Y Y Y Y Y (by omega) Y ?_ | refine A5 3 sbT hG Y Y Y Y Y (by omega) Y ?_ | refine A4 3 sbT hG Y Y Y Y Y (by omega) Y ?_ | refine Ak (α := UInt16) 0 hG Y Y Y Y (by omega) Y ?_ | refine Ak (α := UInt16) 1 hG Y Y Y Y (by omega) Y ?_ | refine Ax hG Y Y Y ?_ | refine A8 0 hG Y Y Y Y ?_ | refine A8 1 hG Y Y Y Y ?_ | refine A8 2 hG Y Y Y Y ?_)
      | (show AOp _ _ ⟨_, .indexAddr _ _ _, _, _, _, _⟩ _ _ _; first | refine Bz (sz := 4) hG Y Y Y Y Y Y Y (by omega) ?_ | refine A2 hG Y Y Y Y Y Y Y (by omega) ?_ | refine Aw hG Y Y Y Y Y Y Y (by omega) ?_ | refine Az hG Y Y Y Y Y Y Y (by omega) ?_ | refine A9 hG Y Y ?_)
      | (show AOp _ _ ⟨_, .buildSlice _ _ _, _, _, _, _⟩ _ _ _; first | refine r_mk (sz := 1) hG Y Y Y Y Y Y Y ?_)
      | (show AOp _ _ ⟨_, .alloc _, _, _, _, _⟩ _ _ _; refine B6 hG Y Y (fun i => ?_))
      | (show AOp _ _ ⟨_, .store _ _ _, _, _, _, _⟩ _ _ _; first | refine A0 (α := UInt16) 0 hG Y Y Y hT_cells hT_sc Y Y (by first | omega | (simp only [Array.size_setIfInBounds]; omega)) ?_ | refine A0 (α := UInt16) 1 hG Y Y Y hT_cells hT_sc Y Y (by first | omega | (simp only [Array.size_setIfInBounds]; omega)) ?_ | refine Bh 0 hG Y Y Y Y Y Y Y ?_ | refine Bh 1 hG Y Y Y Y Y Y Y ?_ | refine Bh 2 hG Y Y Y Y Y Y Y ?_)
      | (show AOp _ _ ⟨_, .call ⟨.builtin .append, _, _⟩, _, _, _, _⟩ _ _ _; first | refine Cb (sz := 1) (xs := []) hG Y Y Y Y Y Y Y ⟨_, Y⟩ Y Y Y Y Y Y Y (by first | omega | (simp; omega)) (fun k => ?_) | refine r_appm 0 hG Y Y Y Y Y Y Y ⟨_, Y⟩ Y Y Y Y Y (by first | omega | (simp only [List.length_append, List.length_cons, List.length_nil]; omega)) (fun k => ?_) | fail)
      | (show AOp _ _ ⟨_, .call ⟨.value _, _, _⟩, _, _, _, _⟩ _ _ _; first | refine r_row Y Y Y Y Y (List.Perm.refl _) hs1 (by assumption) ?_ | fail)
      | refine r_q hG Y Y Y ?_))
    | (show AL _ _ _ _ _ _ _ _; first | refine Bi Y Y Y ?_ | (refine As ?_; first | show AW _ _ _ _ _ _ | show ∃ x', _ < _ ∧ _)) | (show AW _ _ (.seq _ _) _ _ _; refine Ai ?_; intro Q1) | (show AW _ _ (.region _ _ false) _ _ _; (fail_if_success show AW _ _ (.region 11 _ _) _ _ _); refine Ad ?_; intro O1) | (show AW _ _ (.cond _ _ _) _ _ _; first | refine Am Y ?_ | refine Al Y ?_ | refine Bd Y (fun h => ?_) (fun h => ?_)) | (show AW _ _ (.skip) _ _ _; refine Aj ?_; first | show AW _ _ _ _ _ _ | show ∃ x', _ < _ ∧ _) | (show AW _ _ (.block _ _) _ _ _; refine Af ?_; intro Q1) | (show AW _ _ (.exit _) _ _ _; refine Ar ?_; first | show AW _ _ _ _ _ _ | show ∃ x', _ < _ ∧ _) | (show AW _ _ (.ret) _ _ _; refine At ?_; try dsimp only [Ay, Ab, A6, Ah]) | fail)
        have es : rowT mT (Go.Sort.sort ltQ (z :: g).toArray) = (srtL (z :: g)).map mT := by
          unfold srtL rowT; induction (Go.Sort.sort ltQ (z :: g).toArray).toList with
          | nil => rfl
          | cons a l ih => simpa [flat, Ag] using ih
        rw [es]
        have hln : ((srtL (z :: g)).map mT).length = g.length + 1 := by rw [List.length_map, hgl2]; rfl
        refine aw_freeze 0 3 rfl rfl ?_ ?_ ?_
        · rw [hln]; simp
        · refine List.all_eq_true.2 fun c hc => ?_
          obtain ⟨x, _, rfl⟩ := List.mem_map.1 (List.mem_of_mem_drop (List.mem_of_mem_take hc))
          rfl
        have ec : chunks 1 (z :: g).length ((((srtL (z :: g)).map mT).drop 0).take ((z :: g).length * 1)) = (srtL (z :: g)).map mT := by
          rw [List.drop_zero, List.take_of_length_le (by rw [hln]; simp)]
          exact chunks_one _ _ hln
        rw [ec]
        repeat' (first
    | ((show AL _ _ _ _ _ _ _ _; refine Ae Y ?_); (first
      | refine Ap hG Y Y ?_
      | refine A3 hG Y Y ?_
      | (show AOp _ _ ⟨_, .call ⟨.builtin .len, _, _⟩, _, _, _, _⟩ _ _ _; first | refine Br hG Y Y Y Y ?_ | refine By hG Y Y Y Y Y ?_)
      | (show AOp _ _ ⟨_, .binOp .add _ _ _ _, _, _, _, _⟩ _ _ _; first | refine Ac hG Y Y Y Y Y (by omega) ?_ | refine Ac (m := 1) hG Y Y Y Y Y (by omega) ?_ | refine Aa hG Y Y Y Y Y (by omega) ?_)
      | (show AOp _ _ ⟨_, .binOp _ _ _ _ _, _, _, _, _⟩ _ _ _; first | refine Au hG Y Y Y Y Y (by omega) ?_ | refine Av hG Y Y Y Y Y (by omega) ?_ | (refine Ao hG Y Y Y Y Y (fun h => ?_) (fun h => ?_)) | refine Bj hG Y Y Y ?_ | refine Bw hG Y Y Y Y ?_)
      | (show AOp _ _ ⟨_, .load _ _, _, _, _, _⟩ _ _ _; first | refine A5 0 sbT hG Y Y Y Y Y (by omega) Y ?_ | refine A4 0 sbT hG Y Y Y Y Y (by omega) Y ?_ | refine A5 1 sbT hG Y Y Y Y Y (by omega) Y ?_ | refine A4 1 sbT hG Y Y Y Y Y (by omega) Y ?_ | refine A5 2 sbT hG Y Y Y Y Y (by omega) Y ?_ | refine A4 2 sbT hG Y Y Y Y Y (by omega) Y ?_ | refine A5 3 sbT hG Y Y Y Y Y (by omega) Y ?_ | refine A4 3 sbT hG Y Y Y Y Y (by omega) Y ?_ | refine Ak (α := UInt16) 0 hG Y Y Y Y (by omega) Y ?_ | refine Ak (α := UInt16) 1 hG Y Y Y Y (by omega) Y ?_ | refine Ax hG Y Y Y ?_ | refine A8 0 hG Y Y Y Y ?_ | refine A8 1 hG Y Y Y Y ?_ | refine A8 2 hG Y Y Y Y ?_)
      | (show AOp _ _ ⟨_, .indexAddr _ _ _, _, _, _, _⟩ _ _ _; first | refine Bz (sz := 4) hG Y Y Y Y Y Y Y (by omega) ?_ | refine A2 hG Y Y Y Y Y Y Y (by omega) ?_ | refine Aw hG Y Y Y Y Y Y Y (by omega) ?_ | refine Az hG Y Y Y Y Y Y Y (by omega) ?_ | refine A9 hG Y Y ?_)
      | (show AOp _ _ ⟨_, .buildSlice _ _ _, _, _, _, _⟩ _ _ _; first | refine r_mk (sz := 1) hG Y Y Y Y Y Y Y ?_)
      | (show AOp _ _ ⟨_, .alloc _, _, _, _, _⟩ _ _ _; refine B6 hG Y Y (fun i => ?_))
      | (show AOp _ _ ⟨_, .store _ _ _, _, _, _, _⟩ _ _ _; first | refine A0 (α := UInt16) 0 hG Y Y Y hT_cells hT_sc Y Y (by first | omega | (simp only [Array.size_setIfInBounds]; omega)) ?_ | refine A0 (α := UInt16) 1 hG Y Y Y hT_cells hT_sc Y Y (by first | omega | (simp only [Array.size_setIfInBounds]; omega)) ?_ | refine Bh 0 hG Y Y Y Y Y Y Y ?_ | refine Bh 1 hG Y Y Y Y Y Y Y ?_ | refine Bh 2 hG Y Y Y Y Y Y Y ?_)
      | (show AOp _ _ ⟨_, .call ⟨.builtin .append, _, _⟩, _, _, _, _⟩ _ _ _; first | refine Cb (sz := 1) (xs := []) hG Y Y Y Y Y Y Y ⟨_, Y⟩ Y Y Y Y Y Y Y (by first | omega | (simp; omega)) (fun k => ?_) | refine r_appm 0 hG Y Y Y Y Y Y Y ⟨_, Y⟩ Y Y Y Y Y (by first | omega | (simp only [List.length_append, List.length_cons, List.length_nil]; omega)) (fun k => ?_) | fail)
      | refine r_q hG Y Y Y ?_))
    | (show AL _ _ _ _ _ _ _ _; first | refine Bi Y Y Y ?_ | (refine As ?_; first | show AW _ _ _ _ _ _ | show ∃ x', _ < _ ∧ _)) | (show AW _ _ (.seq _ _) _ _ _; refine Ai ?_; intro Q1) | (show AW _ _ (.region _ _ false) _ _ _; refine Ad ?_; intro O1) | (show AW _ _ (.cond _ _ _) _ _ _; first | refine Am Y ?_ | refine Al Y ?_ | refine Bd Y (fun h => ?_) (fun h => ?_)) | (show AW _ _ (.skip) _ _ _; refine Aj ?_; first | show AW _ _ _ _ _ _ | show ∃ x', _ < _ ∧ _) | (show AW _ _ (.block _ _) _ _ _; refine Af ?_; intro Q1) | (show AW _ _ (.exit _) _ _ _; refine Ar ?_; first | show AW _ _ _ _ _ _ | show ∃ x', _ < _ ∧ _) | (show AW _ _ (.ret) _ _ _; refine At ?_; try dsimp only [Ay, Ab, A6, Ah]) | fail)
        exact ret_onL (r := .sl 1 .no ((srtL (z :: g)).map mT)) (Bq rfl Bl) (.refl _) (.refl _) (.refl _) rfl ⟨by rw [hR], rfl⟩
def sizeA (l : List SB) : Nat := (l.map fun s => if s.taken = true then s.bs.length else 0).sum
structure SzX (l : List SB) where
  i : Nat
  hi : i ≤ l.length
theorem sum_le : ∀ (l : List Nat), (∀ x ∈ l, x ≤ 1000000) → l.sum ≤ l.length * 1000000
  | [], _ => by simp
  | x :: l, h => by
    have := sum_le l fun y hy => h y (by simp [hy])
    have := h x (by simp)
    simp only [List.sum_cons, List.length_cons, Nat.add_mul]; omega
theorem sizeA_le {l : List SB} (hb : ∀ s ∈ l, s.bs.length ≤ 1000000) : sizeA l ≤ l.length * 1000000 := by
  unfold sizeA
  refine Nat.le_trans (sum_le _ fun x hx => ?_) (by rw [List.length_map]; exact Nat.le_refl _)
  obtain ⟨s, hs, rfl⟩ := List.mem_map.1 hx
  have := hb s hs
  split <;> omega
theorem sizeA_succ {l : List SB} {i : Nat} (h : i < l.length) : sizeA (l.take (i + 1)) = sizeA (l.take i) + (if (l.getD i default).taken = true then (l.getD i default).bs.length else 0) := by
  unfold sizeA
  rw [List.take_add_one, List.map_append, List.sum_append]
  simp [h, List.getD]
set_option maxHeartbeats 1000000 in
theorem arena_Size (v : UInt8) (l : List SB) (at' : List (Nat × Int)) (hl : l.length ≤ 255) (hb : ∀ s ∈ l, s.bs.length ≤ 1000000) (p ri m : Nat) : OnL Try.prog 35 [.ptr p 0] (arL v l at' p ri m) (fun u L => u = .int .i64 (sizeA l : Int) ∧ L = arL v l at' p ri m) := by
  intro off
  cases l with
  | nil =>
    refine Bp (N := 24) (rs := [.tmp 2]) hG Try.func35 rfl rfl rfl rfl rfl ?_
    repeat' (first
    | ((show AL _ _ _ _ _ _ _ _; refine Ae Y ?_); (first
      | refine Ap hG Y Y ?_
      | refine A3 hG Y Y ?_
      | (show AOp _ _ ⟨_, .call ⟨.builtin .len, _, _⟩, _, _, _, _⟩ _ _ _; first | refine Br hG Y Y Y Y ?_ | refine By hG Y Y Y Y Y ?_)
      | (show AOp _ _ ⟨_, .binOp .add _ _ _ _, _, _, _, _⟩ _ _ _; first | refine Ac hG Y Y Y Y Y (by omega) ?_ | refine Ac (m := 1) hG Y Y Y Y Y (by omega) ?_ | refine Aa hG Y Y Y Y Y (by omega) ?_)
      | (show AOp _ _ ⟨_, .binOp _ _ _ _ _, _, _, _, _⟩ _ _ _; first | refine Au hG Y Y Y Y Y (by omega) ?_ | refine Av hG Y Y Y Y Y (by omega) ?_ | (refine Ao hG Y Y Y Y Y (fun h => ?_) (fun h => ?_)) | refine Bj hG Y Y Y ?_ | refine Bw hG Y Y Y Y ?_)
      | (show AOp _ _ ⟨_, .load _ _, _, _, _, _⟩ _ _ _; first | refine A5 0 sbT hG Y Y Y Y Y (by omega) Y ?_ | refine A4 0 sbT hG Y Y Y Y Y (by omega) Y ?_ | refine A5 1 sbT hG Y Y Y Y Y (by omega) Y ?_ | refine A4 1 sbT hG Y Y Y Y Y (by omega) Y ?_ | refine A5 2 sbT hG Y Y Y Y Y (by omega) Y ?_ | refine A4 2 sbT hG Y Y Y Y Y (by omega) Y ?_ | refine A5 3 sbT hG Y Y Y Y Y (by omega) Y ?_ | refine A4 3 sbT hG Y Y Y Y Y (by omega) Y ?_ | refine Ak (α := UInt16) 0 hG Y Y Y Y (by omega) Y ?_ | refine Ak (α := UInt16) 1 hG Y Y Y Y (by omega) Y ?_ | refine Ax hG Y Y Y ?_ | refine A8 0 hG Y Y Y Y ?_ | refine A8 1 hG Y Y Y Y ?_ | refine A8 2 hG Y Y Y Y ?_)
      | (show AOp _ _ ⟨_, .indexAddr _ _ _, _, _, _, _⟩ _ _ _; first | refine Bz (sz := 4) hG Y Y Y Y Y Y Y (by omega) ?_ | refine A2 hG Y Y Y Y Y Y Y (by omega) ?_ | refine Aw hG Y Y Y Y Y Y Y (by omega) ?_ | refine Az hG Y Y Y Y Y Y Y (by omega) ?_ | refine A9 hG Y Y ?_)
      | (show AOp _ _ ⟨_, .alloc _, _, _, _, _⟩ _ _ _; refine B6 hG Y Y (fun i => ?_))
      | (show AOp _ _ ⟨_, .store _ _ _, _, _, _, _⟩ _ _ _; first | refine A0 (α := UInt16) 0 hG Y Y Y hT_cells hT_sc Y Y (by first | omega | (simp only [Array.size_setIfInBounds]; omega)) ?_ | refine A0 (α := UInt16) 1 hG Y Y Y hT_cells hT_sc Y Y (by first | omega | (simp only [Array.size_setIfInBounds]; omega)) ?_ | refine Bh 0 hG Y Y Y Y Y Y Y ?_ | refine Bh 1 hG Y Y Y Y Y Y Y ?_ | refine Bh 2 hG Y Y Y Y Y Y Y ?_)
      | refine r_q hG Y Y Y ?_))
    | (show AL _ _ _ _ _ _ _ _; first | refine Bi Y Y Y ?_ | (refine As ?_; first | show AW _ _ _ _ _ _ | show ∃ x', _ < _ ∧ _)) | (show AW _ _ (.seq _ _) _ _ _; refine Ai ?_; intro Q1) | (show AW _ _ (.region _ _ false) _ _ _; refine Ad ?_; intro O1) | (show AW _ _ (.cond _ _ _) _ _ _; first | refine Am Y ?_ | refine Al Y ?_ | refine Bd Y (fun h => ?_) (fun h => ?_)) | (show AW _ _ (.skip) _ _ _; refine Aj ?_; first | show AW _ _ _ _ _ _ | show ∃ x', _ < _ ∧ _) | (show AW _ _ (.block _ _) _ _ _; refine Af ?_; intro Q1) | (show AW _ _ (.exit _) _ _ _; refine Ar ?_; first | show AW _ _ _ _ _ _ | show ∃ x', _ < _ ∧ _) | (show AW _ _ (.ret) _ _ _; refine At ?_; try dsimp only [Ay, Ab, A6, Ah]) | fail)
    refine aw_loop (X := Unit) (fun _ => [(3, .int .i64 0), (12, .int .i64 0), (13, .int .i64 0)]) (fun _ => ⟨arL v [] at' p ri m, [], off, none⟩) (fun _ => 0) () (by repeat (first | exact .nil _ | refine .cons rfl ?_)) (.refl _) ?_
    intro _
    repeat' (first
    | ((show AL _ _ _ _ _ _ _ _; refine Ae Y ?_); (first
      | refine Ap hG Y Y ?_
      | refine A3 hG Y Y ?_
      | (show AOp _ _ ⟨_, .call ⟨.builtin .len, _, _⟩, _, _, _, _⟩ _ _ _; first | refine Br hG Y Y Y Y ?_ | refine By hG Y Y Y Y Y ?_)
      | (show AOp _ _ ⟨_, .binOp .add _ _ _ _, _, _, _, _⟩ _ _ _; first | refine Ac hG Y Y Y Y Y (by omega) ?_ | refine Ac (m := 1) hG Y Y Y Y Y (by omega) ?_ | refine Aa hG Y Y Y Y Y (by omega) ?_)
      | (show AOp _ _ ⟨_, .binOp _ _ _ _ _, _, _, _, _⟩ _ _ _; first | refine Au hG Y Y Y Y Y (by omega) ?_ | refine Av hG Y Y Y Y Y (by omega) ?_ | (refine Ao hG Y Y Y Y Y (fun h => ?_) (fun h => ?_)) | refine Bj hG Y Y Y ?_ | refine Bw hG Y Y Y Y ?_)
      | (show AOp _ _ ⟨_, .load _ _, _, _, _, _⟩ _ _ _; first | refine A5 0 sbT hG Y Y Y Y Y (by omega) Y ?_ | refine A4 0 sbT hG Y Y Y Y Y (by omega) Y ?_ | refine A5 1 sbT hG Y Y Y Y Y (by omega) Y ?_ | refine A4 1 sbT hG Y Y Y Y Y (by omega) Y ?_ | refine A5 2 sbT hG Y Y Y Y Y (by omega) Y ?_ | refine A4 2 sbT hG Y Y Y Y Y (by omega) Y ?_ | refine A5 3 sbT hG Y Y Y Y Y (by omega) Y ?_ | refine A4 3 sbT hG Y Y Y Y Y (by omega) Y ?_ | refine Ak (α := UInt16) 0 hG Y Y Y Y (by omega) Y ?_ | refine Ak (α := UInt16) 1 hG Y Y Y Y (by omega) Y ?_ | refine Ax hG Y Y Y ?_ | refine A8 0 hG Y Y Y Y ?_ | refine A8 1 hG Y Y Y Y ?_ | refine A8 2 hG Y Y Y Y ?_)
      | (show AOp _ _ ⟨_, .indexAddr _ _ _, _, _, _, _⟩ _ _ _; first | refine Bz (sz := 4) hG Y Y Y Y Y Y Y (by omega) ?_ | refine A2 hG Y Y Y Y Y Y Y (by omega) ?_ | refine Aw hG Y Y Y Y Y Y Y (by omega) ?_ | refine Az hG Y Y Y Y Y Y Y (by omega) ?_ | refine A9 hG Y Y ?_)
      | (show AOp _ _ ⟨_, .alloc _, _, _, _, _⟩ _ _ _; refine B6 hG Y Y (fun i => ?_))
      | (show AOp _ _ ⟨_, .store _ _ _, _, _, _, _⟩ _ _ _; first | refine A0 (α := UInt16) 0 hG Y Y Y hT_cells hT_sc Y Y (by first | omega | (simp only [Array.size_setIfInBounds]; omega)) ?_ | refine A0 (α := UInt16) 1 hG Y Y Y hT_cells hT_sc Y Y (by first | omega | (simp only [Array.size_setIfInBounds]; omega)) ?_ | refine Bh 0 hG Y Y Y Y Y Y Y ?_ | refine Bh 1 hG Y Y Y Y Y Y Y ?_ | refine Bh 2 hG Y Y Y Y Y Y Y ?_)
      | refine r_q hG Y Y Y ?_))
    | (show AL _ _ _ _ _ _ _ _; first | refine Bi Y Y Y ?_ | (refine As ?_; first | show AW _ _ _ _ _ _ | show ∃ x', _ < _ ∧ _)) | (show AW _ _ (.seq _ _) _ _ _; refine Ai ?_; intro Q1) | (show AW _ _ (.region _ _ false) _ _ _; refine Ad ?_; intro O1) | (show AW _ _ (.cond _ _ _) _ _ _; first | refine Am Y ?_ | refine Al Y ?_ | refine Bd Y (fun h => ?_) (fun h => ?_)) | (show AW _ _ (.skip) _ _ _; refine Aj ?_; first | show AW _ _ _ _ _ _ | show ∃ x', _ < _ ∧ _) | (show AW _ _ (.block _ _) _ _ _; refine Af ?_; intro Q1) | (show AW _ _ (.exit _) _ _ _; refine Ar ?_; first | show AW _ _ _ _ _ _ | show ∃ x', _ < _ ∧ _) | (show AW _ _ (.ret) _ _ _; refine At ?_; try dsimp only [Ay, Ab, A6, Ah]) | fail)
    exact ret_onL (Bq rfl Bl) (.refl _) (.refl _) (.refl _) rfl ⟨rfl, rfl⟩
  | cons s l' =>
    obtain ⟨l, hll⟩ : ∃ l, s :: l' = l := ⟨_, rfl⟩
    have hne : l ≠ [] := by rw [← hll]; simp
    rw [hll] at hl hb ⊢
    have hA : arL v l at' p ri m = [(p, .cells [bT v, .aref 4 ri 0 l.length none, .map (some m)]), (m, .map (at'.map kvT)), (ri, .cells (flat (l.map sbT)))] := by
      unfold arL; rw [slT_ne hne, rowOf_ne hne]
    rw [hA]
    clear hll
    refine Bp (N := 24) (rs := [.tmp 2]) hG Try.func35 rfl rfl rfl rfl rfl ?_
    repeat' (first
    | ((show AL _ _ _ _ _ _ _ _; refine Ae Y ?_); (first
      | refine Ap hG Y Y ?_
      | refine A3 hG Y Y ?_
      | (show AOp _ _ ⟨_, .call ⟨.builtin .len, _, _⟩, _, _, _, _⟩ _ _ _; first | refine Br hG Y Y Y Y ?_ | refine By hG Y Y Y Y Y ?_)
      | (show AOp _ _ ⟨_, .binOp .add _ _ _ _, _, _, _, _⟩ _ _ _; first | refine Ac hG Y Y Y Y Y (by omega) ?_ | refine Ac (m := 1) hG Y Y Y Y Y (by omega) ?_ | refine Aa hG Y Y Y Y Y (by omega) ?_)
      | (show AOp _ _ ⟨_, .binOp _ _ _ _ _, _, _, _, _⟩ _ _ _; first | refine Au hG Y Y Y Y Y (by omega) ?_ | refine Av hG Y Y Y Y Y (by omega) ?_ | (refine Ao hG Y Y Y Y Y (fun h => ?_) (fun h => ?_)) | refine Bj hG Y Y Y ?_ | refine Bw hG Y Y Y Y ?_)
      | (show AOp _ _ ⟨_, .load _ _, _, _, _, _⟩ _ _ _; first | refine A5 0 sbT hG Y Y Y Y Y (by omega) Y ?_ | refine A4 0 sbT hG Y Y Y Y Y (by omega) Y ?_ | refine A5 1 sbT hG Y Y Y Y Y (by omega) Y ?_ | refine A4 1 sbT hG Y Y Y Y Y (by omega) Y ?_ | refine A5 2 sbT hG Y Y Y Y Y (by omega) Y ?_ | refine A4 2 sbT hG Y Y Y Y Y (by omega) Y ?_ | refine A5 3 sbT hG Y Y Y Y Y (by omega) Y ?_ | refine A4 3 sbT hG Y Y Y Y Y (by omega) Y ?_ | refine Ak (α := UInt16) 0 hG Y Y Y Y (by omega) Y ?_ | refine Ak (α := UInt16) 1 hG Y Y Y Y (by omega) Y ?_ | refine Ax hG Y Y Y ?_ | refine A8 0 hG Y Y Y Y ?_ | refine A8 1 hG Y Y Y Y ?_ | refine A8 2 hG Y Y Y Y ?_)
      | (show AOp _ _ ⟨_, .indexAddr _ _ _, _, _, _, _⟩ _ _ _; first | refine Bz (sz := 4) hG Y Y Y Y Y Y Y (by omega) ?_ | refine A2 hG Y Y Y Y Y Y Y (by omega) ?_ | refine Aw hG Y Y Y Y Y Y Y (by omega) ?_ | refine Az hG Y Y Y Y Y Y Y (by omega) ?_ | refine A9 hG Y Y ?_)
      | (show AOp _ _ ⟨_, .alloc _, _, _, _, _⟩ _ _ _; refine B6 hG Y Y (fun i => ?_))
      | (show AOp _ _ ⟨_, .store _ _ _, _, _, _, _⟩ _ _ _; first | refine A0 (α := UInt16) 0 hG Y Y Y hT_cells hT_sc Y Y (by first | omega | (simp only [Array.size_setIfInBounds]; omega)) ?_ | refine A0 (α := UInt16) 1 hG Y Y Y hT_cells hT_sc Y Y (by first | omega | (simp only [Array.size_setIfInBounds]; omega)) ?_ | refine Bh 0 hG Y Y Y Y Y Y Y ?_ | refine Bh 1 hG Y Y Y Y Y Y Y ?_ | refine Bh 2 hG Y Y Y Y Y Y Y ?_)
      | refine r_q hG Y Y Y ?_))
    | (show AL _ _ _ _ _ _ _ _; first | refine Bi Y Y Y ?_ | (refine As ?_; first | show AW _ _ _ _ _ _ | show ∃ x', _ < _ ∧ _)) | (show AW _ _ (.seq _ _) _ _ _; refine Ai ?_; intro Q1) | (show AW _ _ (.region _ _ false) _ _ _; refine Ad ?_; intro O1) | (show AW _ _ (.cond _ _ _) _ _ _; first | refine Am Y ?_ | refine Al Y ?_ | refine Bd Y (fun h => ?_) (fun h => ?_)) | (show AW _ _ (.skip) _ _ _; refine Aj ?_; first | show AW _ _ _ _ _ _ | show ∃ x', _ < _ ∧ _) | (show AW _ _ (.block _ _) _ _ _; refine Af ?_; intro Q1) | (show AW _ _ (.exit _) _ _ _; refine Ar ?_; first | show AW _ _ _ _ _ _ | show ∃ x', _ < _ ∧ _) | (show AW _ _ (.ret) _ _ _; refine At ?_; try dsimp only [Ay, Ab, A6, Ah]) | fail)
    refine aw_loop (X := SzX l) (fun x => [(3, .int .i64 (sizeA (l.take x.i) : Int)), (11, .aref 4 ri 0 l.length none), (12, .int .i64 (l.length : Int)), (13, .int .i64 (x.i : Int))]) (fun x => ⟨[(p, .cells [bT v, .aref 4 ri 0 l.length none, .map (some m)]), (m, .map (at'.map kvT)), (ri, .cells (flat (l.map sbT)))], [], off, none⟩) (fun x => l.length - x.i) ⟨0, Nat.zero_le _⟩ (by repeat (first | exact .nil _ | refine .cons rfl ?_)) (.refl _) ?_
    rintro ⟨q, hi⟩
    dsimp only
    have hsz : sizeA (l.take q) ≤ 255000000 := by
      refine Nat.le_trans (sizeA_le fun s hs => hb s (List.mem_of_mem_take hs)) ?_
      rw [List.length_take]; omega
    by_cases hil : q < l.length
    · have hks := sizeA_succ hil
      have hbq := hb (l.getD q default) (by simp [List.getD, hil])
      generalize sizeA (l.take q) = n at *
      have hsc : ∀ s : SB, (notRaw (sbT s) && (sbT s).cells.all T.scalar) = true := fun s => by
        unfold sbT recT
        cases s.taken <;> rfl
      cases ht : (l.getD q default).taken with
      | true =>
        rw [if_pos ht] at hks
        have hrec : recT (l.getD q default) = .sl 1 .no ((l.getD q default).bs.map bT) := by unfold recT; rw [ht]; rfl
        repeat' (first
    | ((show AL _ _ _ _ _ _ _ _; refine Ae Y ?_); (first
      | refine Ap hG Y Y ?_
      | refine A3 hG Y Y ?_
      | (show AOp _ _ ⟨_, .call ⟨.builtin .len, _, _⟩, _, _, _, _⟩ _ _ _; first | refine Br hG Y Y Y Y ?_ | refine By hG Y Y Y Y Y ?_)
      | (show AOp _ _ ⟨_, .binOp .add _ _ _ _, _, _, _, _⟩ _ _ _; first | refine Ac hG Y Y Y Y Y (by omega) ?_ | refine Ac (m := 1) hG Y Y Y Y Y (by omega) ?_ | refine Aa hG Y Y Y Y Y (by omega) ?_)
      | (show AOp _ _ ⟨_, .binOp _ _ _ _ _, _, _, _, _⟩ _ _ _; first | refine Au hG Y Y Y Y Y (by omega) ?_ | refine Av hG Y Y Y Y Y (by omega) ?_ | (refine Ao hG Y Y Y Y Y (fun h => ?_) (fun h => ?_)) | refine Bj hG Y Y Y ?_ | refine Bw hG Y Y Y Y ?_)
      | (show AOp _ _ ⟨_, .load _ _, _, _, _, _⟩ _ _ _; first | refine A5 0 sbT hG Y Y Y Y Y (by omega) Y ?_ | refine A4 0 sbT hG Y Y Y Y Y (by omega) Y ?_ | refine A5 1 sbT hG Y Y Y Y Y (by omega) Y ?_ | refine A4 1 sbT hG Y Y Y Y Y (by omega) Y ?_ | refine A5 2 sbT hG Y Y Y Y Y (by omega) Y ?_ | refine A4 2 sbT hG Y Y Y Y Y (by omega) Y ?_ | refine A5 3 sbT hG Y Y Y Y Y (by omega) Y ?_ | refine A4 3 sbT hG Y Y Y Y Y (by omega) Y ?_ | refine Ak (α := UInt16) 0 hG Y Y Y Y (by omega) Y ?_ | refine Ak (α := UInt16) 1 hG Y Y Y Y (by omega) Y ?_ | refine Ax hG Y Y Y ?_ | refine A8 0 hG Y Y Y Y ?_ | refine A8 1 hG Y Y Y Y ?_ | refine A8 2 hG Y Y Y Y ?_)
      | (show AOp _ _ ⟨_, .indexAddr _ _ _, _, _, _, _⟩ _ _ _; first | refine Bz (sz := 4) hG Y Y Y Y Y Y Y (by omega) ?_ | refine A2 hG Y Y Y Y Y Y Y (by omega) ?_ | refine Aw hG Y Y Y Y Y Y Y (by omega) ?_ | refine Az hG Y Y Y Y Y Y Y (by omega) ?_ | refine A9 hG Y Y ?_)
      | (show AOp _ _ ⟨_, .alloc _, _, _, _, _⟩ _ _ _; refine B6 hG Y Y (fun i => ?_))
      | (show AOp _ _ ⟨_, .store _ _ _, _, _, _, _⟩ _ _ _; fail)
      | refine r_q hG Y Y Y ?_))
    | (show AL _ _ _ _ _ _ _ _; first | refine Bi Y Y Y ?_ | (refine As ?_; first | show AW _ _ _ _ _ _ | show ∃ x', _ < _ ∧ _)) | (show AW _ _ (.seq _ _) _ _ _; refine Ai ?_; intro Q1) | (show AW _ _ (.region _ _ false) _ _ _; refine Ad ?_; intro O1) | (show AW _ _ (.cond _ _ _) _ _ _; first | refine Am Y ?_ | refine Al Y ?_ | refine Bd Y (fun h => ?_) (fun h => ?_)) | (show AW _ _ (.skip) _ _ _; refine Aj ?_; first | show AW _ _ _ _ _ _ | show ∃ x', _ < _ ∧ _) | (show AW _ _ (.block _ _) _ _ _; refine Af ?_; intro Q1) | (show AW _ _ (.exit _) _ _ _; refine Ar ?_; first | show AW _ _ _ _ _ _ | show ∃ x', _ < _ ∧ _) | (show AW _ _ (.ret) _ _ _; refine At ?_; try dsimp only [Ay, Ab, A6, Ah]) | fail)
        refine Ae rfl ?_
        refine Bh 0 (u := sbT (l.getD q default)) hG rfl rfl rfl (hsc _) rfl rfl rfl ?_
        repeat' (first
    | ((show AL _ _ _ _ _ _ _ _; refine Ae Y ?_); (first
      | refine Ap hG Y Y ?_
      | refine A3 hG Y Y ?_
      | (show AOp _ _ ⟨_, .call ⟨.builtin .len, _, _⟩, _, _, _, _⟩ _ _ _; fail)
      | (show AOp _ _ ⟨_, .binOp .add _ _ _ _, _, _, _, _⟩ _ _ _; first | refine Ac hG Y Y Y Y Y (by omega) ?_ | refine Ac (m := 1) hG Y Y Y Y Y (by omega) ?_ | refine Aa hG Y Y Y Y Y (by omega) ?_)
      | (show AOp _ _ ⟨_, .binOp _ _ _ _ _, _, _, _, _⟩ _ _ _; first | refine Au hG Y Y Y Y Y (by omega) ?_ | refine Av hG Y Y Y Y Y (by omega) ?_ | (refine Ao hG Y Y Y Y Y (fun h => ?_) (fun h => ?_)) | refine Bj hG Y Y Y ?_ | refine Bw hG Y Y Y Y ?_)
      | (show AOp _ _ ⟨_, .load _ _, _, _, _, _⟩ _ _ _; first | refine A5 0 sbT hG Y Y Y Y Y (by omega) Y ?_ | refine A4 0 sbT hG Y Y Y Y Y (by omega) Y ?_ | refine A5 1 sbT hG Y Y Y Y Y (by omega) Y ?_ | refine A4 1 sbT hG Y Y Y Y Y (by omega) Y ?_ | refine A5 2 sbT hG Y Y Y Y Y (by omega) Y ?_ | refine A4 2 sbT hG Y Y Y Y Y (by omega) Y ?_ | refine A5 3 sbT hG Y Y Y Y Y (by omega) Y ?_ | refine A4 3 sbT hG Y Y Y Y Y (by omega) Y ?_ | refine Ak (α := UInt16) 0 hG Y Y Y Y (by omega) Y ?_ | refine Ak (α := UInt16) 1 hG Y Y Y Y (by omega) Y ?_ | refine Ax hG Y Y Y ?_ | refine A8 0 hG Y Y Y Y ?_ | refine A8 1 hG Y Y Y Y ?_ | refine A8 2 hG Y Y Y Y ?_)
      | (show AOp _ _ ⟨_, .indexAddr _ _ _, _, _, _, _⟩ _ _ _; first | refine Bz (sz := 4) hG Y Y Y Y Y Y Y (by omega) ?_ | refine A2 hG Y Y Y Y Y Y Y (by omega) ?_ | refine Aw hG Y Y Y Y Y Y Y (by omega) ?_ | refine Az hG Y Y Y Y Y Y Y (by omega) ?_ | refine A9 hG Y Y ?_)
      | (show AOp _ _ ⟨_, .alloc _, _, _, _, _⟩ _ _ _; refine B6 hG Y Y (fun i => ?_))
      | (show AOp _ _ ⟨_, .store _ _ _, _, _, _, _⟩ _ _ _; first | refine A0 (α := UInt16) 0 hG Y Y Y hT_cells hT_sc Y Y (by first | omega | (simp only [Array.size_setIfInBounds]; omega)) ?_ | refine A0 (α := UInt16) 1 hG Y Y Y hT_cells hT_sc Y Y (by first | omega | (simp only [Array.size_setIfInBounds]; omega)) ?_ | refine Bh 0 hG Y Y Y Y Y Y Y ?_ | refine Bh 1 hG Y Y Y Y Y Y Y ?_ | refine Bh 2 hG Y Y Y Y Y Y Y ?_)
      | refine r_q hG Y Y Y ?_))
    | (show AL _ _ _ _ _ _ _ _; first | refine Bi Y Y Y ?_ | (refine As ?_; first | show AW _ _ _ _ _ _ | show ∃ x', _ < _ ∧ _)) | (show AW _ _ (.seq _ _) _ _ _; refine Ai ?_; intro Q1) | (show AW _ _ (.region _ _ false) _ _ _; refine Ad ?_; intro O1) | (show AW _ _ (.cond _ _ _) _ _ _; first | refine Am Y ?_ | refine Al Y ?_ | refine Bd Y (fun h => ?_) (fun h => ?_)) | (show AW _ _ (.skip) _ _ _; refine Aj ?_; first | show AW _ _ _ _ _ _ | show ∃ x', _ < _ ∧ _) | (show AW _ _ (.block _ _) _ _ _; refine Af ?_; intro Q1) | (show AW _ _ (.exit _) _ _ _; refine Ar ?_; first | show AW _ _ _ _ _ _ | show ∃ x', _ < _ ∧ _) | (show AW _ _ (.ret) _ _ _; refine At ?_; try dsimp only [Ay, Ab, A6, Ah]) | fail)
        refine al_slot 19 rfl (u := .sl 1 .no ((l.getD q default).bs.map bT)) (.eq hrec) ?_
        repeat' (first
    | ((show AL _ _ _ _ _ _ _ _; refine Ae Y ?_); (first
      | refine Ap hG Y Y ?_
      | refine A3 hG Y Y ?_
      | (show AOp _ _ ⟨_, .call ⟨.builtin .len, _, _⟩, _, _, _, _⟩ _ _ _; first | refine Br hG Y Y Y Y ?_ | refine By hG Y Y Y Y Y ?_)
      | (show AOp _ _ ⟨_, .binOp .add _ _ _ _, _, _, _, _⟩ _ _ _; first | refine Ac hG Y Y Y Y Y (by omega) ?_ | refine Ac (m := 1) hG Y Y Y Y Y (by omega) ?_ | refine Aa hG Y Y Y Y Y (by omega) ?_)
      | (show AOp _ _ ⟨_, .binOp _ _ _ _ _, _, _, _, _⟩ _ _ _; first | refine Au hG Y Y Y Y Y (by omega) ?_ | refine Av hG Y Y Y Y Y (by omega) ?_ | (refine Ao hG Y Y Y Y Y (fun h => ?_) (fun h => ?_)) | refine Bj hG Y Y Y ?_ | refine Bw hG Y Y Y Y ?_)
      | (show AOp _ _ ⟨_, .load _ _, _, _, _, _⟩ _ _ _; first | refine A5 0 sbT hG Y Y Y Y Y (by omega) Y ?_ | refine A4 0 sbT hG Y Y Y Y Y (by omega) Y ?_ | refine A5 1 sbT hG Y Y Y Y Y (by omega) Y ?_ | refine A4 1 sbT hG Y Y Y Y Y (by omega) Y ?_ | refine A5 2 sbT hG Y Y Y Y Y (by omega) Y ?_ | refine A4 2 sbT hG Y Y Y Y Y (by omega) Y ?_ | refine A5 3 sbT hG Y Y Y Y Y (by omega) Y ?_ | refine A4 3 sbT hG Y Y Y Y Y (by omega) Y ?_ | refine Ak (α := UInt16) 0 hG Y Y Y Y (by omega) Y ?_ | refine Ak (α := UInt16) 1 hG Y Y Y Y (by omega) Y ?_ | refine Ax hG Y Y Y ?_ | refine A8 0 hG Y Y Y Y ?_ | refine A8 1 hG Y Y Y Y ?_ | refine A8 2 hG Y Y Y Y ?_)
      | (show AOp _ _ ⟨_, .indexAddr _ _ _, _, _, _, _⟩ _ _ _; first | refine Bz (sz := 4) hG Y Y Y Y Y Y Y (by omega) ?_ | refine A2 hG Y Y Y Y Y Y Y (by omega) ?_ | refine Aw hG Y Y Y Y Y Y Y (by omega) ?_ | refine Az hG Y Y Y Y Y Y Y (by omega) ?_ | refine A9 hG Y Y ?_)
      | (show AOp _ _ ⟨_, .alloc _, _, _, _, _⟩ _ _ _; refine B6 hG Y Y (fun i => ?_))
      | (show AOp _ _ ⟨_, .store _ _ _, _, _, _, _⟩ _ _ _; first | refine A0 (α := UInt16) 0 hG Y Y Y hT_cells hT_sc Y Y (by first | omega | (simp only [Array.size_setIfInBounds]; omega)) ?_ | refine A0 (α := UInt16) 1 hG Y Y Y hT_cells hT_sc Y Y (by first | omega | (simp only [Array.size_setIfInBounds]; omega)) ?_ | refine Bh 0 hG Y Y Y Y Y Y Y ?_ | refine Bh 1 hG Y Y Y Y Y Y Y ?_ | refine Bh 2 hG Y Y Y Y Y Y Y ?_)
      | refine r_q hG Y Y Y ?_))
    | (show AL _ _ _ _ _ _ _ _; first | refine Bi Y Y Y ?_ | (refine As ?_; first | show AW _ _ _ _ _ _ | show ∃ x', _ < _ ∧ _)) | (show AW _ _ (.seq _ _) _ _ _; refine Ai ?_; intro Q1) | (show AW _ _ (.region _ _ false) _ _ _; refine Ad ?_; intro O1) | (show AW _ _ (.cond _ _ _) _ _ _; first | refine Am Y ?_ | refine Al Y ?_ | refine Bd Y (fun h => ?_) (fun h => ?_)) | (show AW _ _ (.skip) _ _ _; refine Aj ?_; first | show AW _ _ _ _ _ _ | show ∃ x', _ < _ ∧ _) | (show AW _ _ (.block _ _) _ _ _; refine Af ?_; intro Q1) | (show AW _ _ (.exit _) _ _ _; refine Ar ?_; first | show AW _ _ _ _ _ _ | show ∃ x', _ < _ ∧ _) | (show AW _ _ (.ret) _ _ _; refine At ?_; try dsimp only [Ay, Ab, A6, Ah]) | fail)
        exact ⟨⟨q + 1, by omega⟩, by dsimp only; omega, .consW rfl (.int (by dsimp only; rw [hks]; try omega)) (.cons rfl (.cons rfl (.cons rfl (.nil _)))), keep_step (R' := []) (List.sublist_cons_self _ _) (List.nil_sublist _)⟩
      | false =>
        rw [if_neg (by rw [ht]; exact Bool.false_ne_true), Nat.add_zero] at hks
        have hrec : recT (l.getD q default) = .nilsl := by unfold recT; rw [ht]; rfl
        repeat' (first
    | ((show AL _ _ _ _ _ _ _ _; refine Ae Y ?_); (first
      | refine Ap hG Y Y ?_
      | refine A3 hG Y Y ?_
      | (show AOp _ _ ⟨_, .call ⟨.builtin .len, _, _⟩, _, _, _, _⟩ _ _ _; first | refine Br hG Y Y Y Y ?_ | refine By hG Y Y Y Y Y ?_)
      | (show AOp _ _ ⟨_, .binOp .add _ _ _ _, _, _, _, _⟩ _ _ _; first | refine Ac hG Y Y Y Y Y (by omega) ?_ | refine Ac (m := 1) hG Y Y Y Y Y (by omega) ?_ | refine Aa hG Y Y Y Y Y (by omega) ?_)
      | (show AOp _ _ ⟨_, .binOp _ _ _ _ _, _, _, _, _⟩ _ _ _; first | refine Au hG Y Y Y Y Y (by omega) ?_ | refine Av hG Y Y Y Y Y (by omega) ?_ | (refine Ao hG Y Y Y Y Y (fun h => ?_) (fun h => ?_)) | refine Bj hG Y Y Y ?_ | refine Bw hG Y Y Y Y ?_)
      | (show AOp _ _ ⟨_, .load _ _, _, _, _, _⟩ _ _ _; first | refine A5 0 sbT hG Y Y Y Y Y (by omega) Y ?_ | refine A4 0 sbT hG Y Y Y Y Y (by omega) Y ?_ | refine A5 1 sbT hG Y Y Y Y Y (by omega) Y ?_ | refine A4 1 sbT hG Y Y Y Y Y (by omega) Y ?_ | refine A5 2 sbT hG Y Y Y Y Y (by omega) Y ?_ | refine A4 2 sbT hG Y Y Y Y Y (by omega) Y ?_ | refine A5 3 sbT hG Y Y Y Y Y (by omega) Y ?_ | refine A4 3 sbT hG Y Y Y Y Y (by omega) Y ?_ | refine Ak (α := UInt16) 0 hG Y Y Y Y (by omega) Y ?_ | refine Ak (α := UInt16) 1 hG Y Y Y Y (by omega) Y ?_ | refine Ax hG Y Y Y ?_ | refine A8 0 hG Y Y Y Y ?_ | refine A8 1 hG Y Y Y Y ?_ | refine A8 2 hG Y Y Y Y ?_)
      | (show AOp _ _ ⟨_, .indexAddr _ _ _, _, _, _, _⟩ _ _ _; first | refine Bz (sz := 4) hG Y Y Y Y Y Y Y (by omega) ?_ | refine A2 hG Y Y Y Y Y Y Y (by omega) ?_ | refine Aw hG Y Y Y Y Y Y Y (by omega) ?_ | refine Az hG Y Y Y Y Y Y Y (by omega) ?_ | refine A9 hG Y Y ?_)
      | (show AOp _ _ ⟨_, .alloc _, _, _, _, _⟩ _ _ _; refine B6 hG Y Y (fun i => ?_))
      | (show AOp _ _ ⟨_, .store _ _ _, _, _, _, _⟩ _ _ _; fail)
      | refine r_q hG Y Y Y ?_))
    | (show AL _ _ _ _ _ _ _ _; first | refine Bi Y Y Y ?_ | (refine As ?_; first | show AW _ _ _ _ _ _ | show ∃ x', _ < _ ∧ _)) | (show AW _ _ (.seq _ _) _ _ _; refine Ai ?_; intro Q1) | (show AW _ _ (.region _ _ false) _ _ _; refine Ad ?_; intro O1) | (show AW _ _ (.cond _ _ _) _ _ _; first | refine Am Y ?_ | refine Al Y ?_ | refine Bd Y (fun h => ?_) (fun h => ?_)) | (show AW _ _ (.skip) _ _ _; refine Aj ?_; first | show AW _ _ _ _ _ _ | show ∃ x', _ < _ ∧ _) | (show AW _ _ (.block _ _) _ _ _; refine Af ?_; intro Q1) | (show AW _ _ (.exit _) _ _ _; refine Ar ?_; first | show AW _ _ _ _ _ _ | show ∃ x', _ < _ ∧ _) | (show AW _ _ (.ret) _ _ _; refine At ?_; try dsimp only [Ay, Ab, A6, Ah]) | fail)
        refine Ae rfl ?_
        refine Bh 0 (u := sbT (l.getD q default)) hG rfl rfl rfl (hsc _) rfl rfl rfl ?_
        repeat' (first
    | ((show AL _ _ _ _ _ _ _ _; refine Ae Y ?_); (first
      | refine Ap hG Y Y ?_
      | refine A3 hG Y Y ?_
      | (show AOp _ _ ⟨_, .call ⟨.builtin .len, _, _⟩, _, _, _, _⟩ _ _ _; fail)
      | (show AOp _ _ ⟨_, .binOp .add _ _ _ _, _, _, _, _⟩ _ _ _; first | refine Ac hG Y Y Y Y Y (by omega) ?_ | refine Ac (m := 1) hG Y Y Y Y Y (by omega) ?_ | refine Aa hG Y Y Y Y Y (by omega) ?_)
      | (show AOp _ _ ⟨_, .binOp _ _ _ _ _, _, _, _, _⟩ _ _ _; first | refine Au hG Y Y Y Y Y (by omega) ?_ | refine Av hG Y Y Y Y Y (by omega) ?_ | (refine Ao hG Y Y Y Y Y (fun h => ?_) (fun h => ?_)) | refine Bj hG Y Y Y ?_ | refine Bw hG Y Y Y Y ?_)
      | (show AOp _ _ ⟨_, .load _ _, _, _, _, _⟩ _ _ _; first | refine A5 0 sbT hG Y Y Y Y Y (by omega) Y ?_ | refine A4 0 sbT hG Y Y Y Y Y (by omega) Y ?_ | refine A5 1 sbT hG Y Y Y Y Y (by omega) Y ?_ | refine A4 1 sbT hG Y Y Y Y Y (by omega) Y ?_ | refine A5 2 sbT hG Y Y Y Y Y (by omega) Y ?_ | refine A4 2 sbT hG Y Y Y Y Y (by omega) Y ?_ | refine A5 3 sbT hG Y Y Y Y Y (by omega) Y ?_ | refine A4 3 sbT hG Y Y Y Y Y (by omega) Y ?_ | refine Ak (α := UInt16) 0 hG Y Y Y Y (by omega) Y ?_ | refine Ak (α := UInt16) 1 hG Y Y Y Y (by omega) Y ?_ | refine Ax hG Y Y Y ?_ | refine A8 0 hG Y Y Y Y ?_ | refine A8 1 hG Y Y Y Y ?_ | refine A8 2 hG Y Y Y Y ?_)
      | (show AOp _ _ ⟨_, .indexAddr _ _ _, _, _, _, _⟩ _ _ _; first | refine Bz (sz := 4) hG Y Y Y Y Y Y Y (by omega) ?_ | refine A2 hG Y Y Y Y Y Y Y (by omega) ?_ | refine Aw hG Y Y Y Y Y Y Y (by omega) ?_ | refine Az hG Y Y Y Y Y Y Y (by omega) ?_ | refine A9 hG Y Y ?_)
      | (show AOp _ _ ⟨_, .alloc _, _, _, _, _⟩ _ _ _; refine B6 hG Y Y (fun i => ?_))
      | (show AOp _ _ ⟨_, .store _ _ _, _, _, _, _⟩ _ _ _; first | refine A0 (α := UInt16) 0 hG Y Y Y hT_cells hT_sc Y Y (by first | omega | (simp only [Array.size_setIfInBounds]; omega)) ?_ | refine A0 (α := UInt16) 1 hG Y Y Y hT_cells hT_sc Y Y (by first | omega | (simp only [Array.size_setIfInBounds]; omega)) ?_ | refine Bh 0 hG Y Y Y Y Y Y Y ?_ | refine Bh 1 hG Y Y Y Y Y Y Y ?_ | refine Bh 2 hG Y Y Y Y Y Y Y ?_)
      | refine r_q hG Y Y Y ?_))
    | (show AL _ _ _ _ _ _ _ _; first | refine Bi Y Y Y ?_ | (refine As ?_; first | show AW _ _ _ _ _ _ | show ∃ x', _ < _ ∧ _)) | (show AW _ _ (.seq _ _) _ _ _; refine Ai ?_; intro Q1) | (show AW _ _ (.region _ _ false) _ _ _; refine Ad ?_; intro O1) | (show AW _ _ (.cond _ _ _) _ _ _; first | refine Am Y ?_ | refine Al Y ?_ | refine Bd Y (fun h => ?_) (fun h => ?_)) | (show AW _ _ (.skip) _ _ _; refine Aj ?_; first | show AW _ _ _ _ _ _ | show ∃ x', _ < _ ∧ _) | (show AW _ _ (.block _ _) _ _ _; refine Af ?_; intro Q1) | (show AW _ _ (.exit _) _ _ _; refine Ar ?_; first | show AW _ _ _ _ _ _ | show ∃ x', _ < _ ∧ _) | (show AW _ _ (.ret) _ _ _; refine At ?_; try dsimp only [Ay, Ab, A6, Ah]) | fail)
        refine al_slot 19 rfl (u := .nilsl) (.eq hrec) ?_
        repeat' (first
    | ((show AL _ _ _ _ _ _ _ _; refine Ae Y ?_); (first
      | refine Ap hG Y Y ?_
      | refine A3 hG Y Y ?_
      | (show AOp _ _ ⟨_, .call ⟨.builtin .len, _, _⟩, _, _, _, _⟩ _ _ _; first | refine Br hG Y Y Y Y ?_ | refine By hG Y Y Y Y Y ?_)
      | (show AOp _ _ ⟨_, .binOp .add _ _ _ _, _, _, _, _⟩ _ _ _; first | refine Ac hG Y Y Y Y Y (by omega) ?_ | refine Ac (m := 1) hG Y Y Y Y Y (by omega) ?_ | refine Aa hG Y Y Y Y Y (by omega) ?_)
      | (show AOp _ _ ⟨_, .binOp _ _ _ _ _, _, _, _, _⟩ _ _ _; first | refine Au hG Y Y Y Y Y (by omega) ?_ | refine Av hG Y Y Y Y Y (by omega) ?_ | (refine Ao hG Y Y Y Y Y (fun h => ?_) (fun h => ?_)) | refine Bj hG Y Y Y ?_ | refine Bw hG Y Y Y Y ?_)
      | (show AOp _ _ ⟨_, .load _ _, _, _, _, _⟩ _ _ _; first | refine A5 0 sbT hG Y Y Y Y Y (by omega) Y ?_ | refine A4 0 sbT hG Y Y Y Y Y (by omega) Y ?_ | refine A5 1 sbT hG Y Y Y Y Y (by omega) Y ?_ | refine A4 1 sbT hG Y Y Y Y Y (by omega) Y ?_ | refine A5 2 sbT hG Y Y Y Y Y (by omega) Y ?_ | refine A4 2 sbT hG Y Y Y Y Y (by omega) Y ?_ | refine A5 3 sbT hG Y Y Y Y Y (by omega) Y ?_ | refine A4 3 sbT hG Y Y Y Y Y (by omega) Y ?_ | refine Ak (α := UInt16) 0 hG Y Y Y Y (by omega) Y ?_ | refine Ak (α := UInt16) 1 hG Y Y Y Y (by omega) Y ?_ | refine Ax hG Y Y Y ?_ | refine A8 0 hG Y Y Y Y ?_ | refine A8 1 hG Y Y Y Y ?_ | refine A8 2 hG Y Y Y Y ?_)
      | (show AOp _ _ ⟨_, .indexAddr _ _ _, _, _, _, _⟩ _ _ _; first | refine Bz (sz := 4) hG Y Y Y Y Y Y Y (by omega) ?_ | refine A2 hG Y Y Y Y Y Y Y (by omega) ?_ | refine Aw hG Y Y Y Y Y Y Y (by omega) ?_ | refine Az hG Y Y Y Y Y Y Y (by omega) ?_ | refine A9 hG Y Y ?_)
      | (show AOp _ _ ⟨_, .alloc _, _, _, _, _⟩ _ _ _; refine B6 hG Y Y (fun i => ?_))
      | (show AOp _ _ ⟨_, .store _ _ _, _, _, _, _⟩ _ _ _; first | refine A0 (α := UInt16) 0 hG Y Y Y hT_cells hT_sc Y Y (by first | omega | (simp only [Array.size_setIfInBounds]; omega)) ?_ | refine A0 (α := UInt16) 1 hG Y Y Y hT_cells hT_sc Y Y (by first | omega | (simp only [Array.size_setIfInBounds]; omega)) ?_ | refine Bh 0 hG Y Y Y Y Y Y Y ?_ | refine Bh 1 hG Y Y Y Y Y Y Y ?_ | refine Bh 2 hG Y Y Y Y Y Y Y ?_)
      | refine r_q hG Y Y Y ?_))
    | (show AL _ _ _ _ _ _ _ _; first | refine Bi Y Y Y ?_ | (refine As ?_; first | show AW _ _ _ _ _ _ | show ∃ x', _ < _ ∧ _)) | (show AW _ _ (.seq _ _) _ _ _; refine Ai ?_; intro Q1) | (show AW _ _ (.region _ _ false) _ _ _; refine Ad ?_; intro O1) | (show AW _ _ (.cond _ _ _) _ _ _; first | refine Am Y ?_ | refine Al Y ?_ | refine Bd Y (fun h => ?_) (fun h => ?_)) | (show AW _ _ (.skip) _ _ _; refine Aj ?_; first | show AW _ _ _ _ _ _ | show ∃ x', _ < _ ∧ _) | (show AW _ _ (.block _ _) _ _ _; refine Af ?_; intro Q1) | (show AW _ _ (.exit _) _ _ _; refine Ar ?_; first | show AW _ _ _ _ _ _ | show ∃ x', _ < _ ∧ _) | (show AW _ _ (.ret) _ _ _; refine At ?_; try dsimp only [Ay, Ab, A6, Ah]) | fail)
        exact ⟨⟨q + 1, by omega⟩, by dsimp only; omega, .consW rfl (.int (by dsimp only; rw [hks]; try omega)) (.cons rfl (.cons rfl (.cons rfl (.nil _)))), keep_step (R' := []) (List.sublist_cons_self _ _) (List.nil_sublist _)⟩
    · rw [List.take_of_length_le (by omega)]
      repeat' (first
    | ((show AL _ _ _ _ _ _ _ _; refine Ae Y ?_); (first
      | refine Ap hG Y Y ?_
      | refine A3 hG Y Y ?_
      | (show AOp _ _ ⟨_, .call ⟨.builtin .len, _, _⟩, _, _, _, _⟩ _ _ _; first | refine Br hG Y Y Y Y ?_ | refine By hG Y Y Y Y Y ?_)
      | (show AOp _ _ ⟨_, .binOp .add _ _ _ _, _, _, _, _⟩ _ _ _; first | refine Ac hG Y Y Y Y Y (by omega) ?_ | refine Ac (m := 1) hG Y Y Y Y Y (by omega) ?_ | refine Aa hG Y Y Y Y Y (by omega) ?_)
      | (show AOp _ _ ⟨_, .binOp _ _ _ _ _, _, _, _, _⟩ _ _ _; first | refine Au hG Y Y Y Y Y (by omega) ?_ | refine Av hG Y Y Y Y Y (by omega) ?_ | (refine Ao hG Y Y Y Y Y (fun h => ?_) (fun h => ?_)) | refine Bj hG Y Y Y ?_ | refine Bw hG Y Y Y Y ?_)
      | (show AOp _ _ ⟨_, .load _ _, _, _, _, _⟩ _ _ _; first | refine A5 0 sbT hG Y Y Y Y Y (by omega) Y ?_ | refine A4 0 sbT hG Y Y Y Y Y (by omega) Y ?_ | refine A5 1 sbT hG Y Y Y Y Y (by omega) Y ?_ | refine A4 1 sbT hG Y Y Y Y Y (by omega) Y ?_ | refine A5 2 sbT hG Y Y Y Y Y (by omega) Y ?_ | refine A4 2 sbT hG Y Y Y Y Y (by omega) Y ?_ | refine A5 3 sbT hG Y Y Y Y Y (by omega) Y ?_ | refine A4 3 sbT hG Y Y Y Y Y (by omega) Y ?_ | refine Ak (α := UInt16) 0 hG Y Y Y Y (by omega) Y ?_ | refine Ak (α := UInt16) 1 hG Y Y Y Y (by omega) Y ?_ | refine Ax hG Y Y Y ?_ | refine A8 0 hG Y Y Y Y ?_ | refine A8 1 hG Y Y Y Y ?_ | refine A8 2 hG Y Y Y Y ?_)
      | (show AOp _ _ ⟨_, .indexAddr _ _ _, _, _, _, _⟩ _ _ _; first | refine Bz (sz := 4) hG Y Y Y Y Y Y Y (by omega) ?_ | refine A2 hG Y Y Y Y Y Y Y (by omega) ?_ | refine Aw hG Y Y Y Y Y Y Y (by omega) ?_ | refine Az hG Y Y Y Y Y Y Y (by omega) ?_ | refine A9 hG Y Y ?_)
      | (show AOp _ _ ⟨_, .alloc _, _, _, _, _⟩ _ _ _; refine B6 hG Y Y (fun i => ?_))
      | (show AOp _ _ ⟨_, .store _ _ _, _, _, _, _⟩ _ _ _; first | refine A0 (α := UInt16) 0 hG Y Y Y hT_cells hT_sc Y Y (by first | omega | (simp only [Array.size_setIfInBounds]; omega)) ?_ | refine A0 (α := UInt16) 1 hG Y Y Y hT_cells hT_sc Y Y (by first | omega | (simp only [Array.size_setIfInBounds]; omega)) ?_ | refine Bh 0 hG Y Y Y Y Y Y Y ?_ | refine Bh 1 hG Y Y Y Y Y Y Y ?_ | refine Bh 2 hG Y Y Y Y Y Y Y ?_)
      | refine r_q hG Y Y Y ?_))
    | (show AL _ _ _ _ _ _ _ _; first | refine Bi Y Y Y ?_ | (refine As ?_; first | show AW _ _ _ _ _ _ | show ∃ x', _ < _ ∧ _)) | (show AW _ _ (.seq _ _) _ _ _; refine Ai ?_; intro Q1) | (show AW _ _ (.region _ _ false) _ _ _; refine Ad ?_; intro O1) | (show AW _ _ (.cond _ _ _) _ _ _; first | refine Am Y ?_ | refine Al Y ?_ | refine Bd Y (fun h => ?_) (fun h => ?_)) | (show AW _ _ (.skip) _ _ _; refine Aj ?_; first | show AW _ _ _ _ _ _ | show ∃ x', _ < _ ∧ _) | (show AW _ _ (.block _ _) _ _ _; refine Af ?_; intro Q1) | (show AW _ _ (.exit _) _ _ _; refine Ar ?_; first | show AW _ _ _ _ _ _ | show ∃ x', _ < _ ∧ _) | (show AW _ _ (.ret) _ _ _; refine At ?_; try dsimp only [Ay, Ab, A6, Ah]) | fail)
      exact ret_onL (Bq rfl Bl) (.refl _) (.refl _) (.refl _) rfl ⟨rfl, rfl⟩
end Go.Proofs.Ythfgocinlbogeaa
namespace Go.Proofs.Ythfgocinlbogeaa
open Go.Ts
set_option linter.unusedSimpArgs false
set_option linter.unusedVariables false
set_option linter.unnecessarySimpa false
attribute [local irreducible] Go.Ts.AW Go.Ts.AOps Go.Ts.AL Go.Ts.AOp Go.Ts.ACalls Go.Ts.DL Go.Ts.DQ0 Go.Ts.EL
theorem arena_find_is (v : UInt8) (l : List SB) (at' : List (Nat × Int)) {id : Nat} {j : Int} (hk : khas at' id = true) (hj : klook at' id = j) (p ri m : Nat) : OnL Try.prog 65 [.ptr p 0, .int .u64 (id : Int)] (arL v l at' p ri m) (fun u L => u = .tup [.int .i64 j, .int .i64 0] ∧ L = arL v l at' p ri m) := by
  intro off
  refine Bp (N := 22) (rs := [.tmp 4, .tmp 5]) hG Try.func65 rfl rfl rfl rfl rfl ?_
  repeat' (first
    | ((show AL _ _ _ _ _ _ _ _; refine Ae Y ?_); (first
      | refine Ap hG Y Y ?_
      | refine A3 hG Y Y ?_
      | (show AOp _ _ ⟨_, .lookup _ _ _ _, _, _, _, _⟩ _ _ _; fail)
      | (show AOp _ _ ⟨_, .binOp _ _ _ _ _, _, _, _, _⟩ _ _ _; first | refine Bj hG Y Y Y ?_ | refine Bw hG Y Y Y Y ?_)
      | (show AOp _ _ ⟨_, .load _ _, _, _, _, _⟩ _ _ _; first | refine A5 0 sbT hG Y Y Y Y Y (by omega) Y ?_ | refine A4 0 sbT hG Y Y Y Y Y (by omega) Y ?_ | refine A5 1 sbT hG Y Y Y Y Y (by omega) Y ?_ | refine A4 1 sbT hG Y Y Y Y Y (by omega) Y ?_ | refine A5 2 sbT hG Y Y Y Y Y (by omega) Y ?_ | refine A4 2 sbT hG Y Y Y Y Y (by omega) Y ?_ | refine A5 3 sbT hG Y Y Y Y Y (by omega) Y ?_ | refine A4 3 sbT hG Y Y Y Y Y (by omega) Y ?_ | refine Ak (α := UInt16) 0 hG Y Y Y Y (by omega) Y ?_ | refine Ak (α := UInt16) 1 hG Y Y Y Y (by omega) Y ?_ | refine A8 0 hG Y Y Y Y ?_ | refine A8 1 hG Y Y Y Y ?_)
      | refine Bn hG Y Y Y ?_
      | refine r_q hG Y Y Y ?_))
    | (show AL _ _ _ _ _ _ _ _; first | refine Bi Y Y Y ?_ | (refine As ?_; first | show AW _ _ _ _ _ _ | show ∃ x', _ < _ ∧ _)) | (show AW _ _ (.seq _ _) _ _ _; refine Ai ?_; intro Q1) | (show AW _ _ (.region _ _ false) _ _ _; refine Ad ?_; intro O1) | (show AW _ _ (.cond _ _ _) _ _ _; first | refine Am Y ?_ | refine Al Y ?_ | refine Bd Y (fun h => ?_) (fun h => ?_)) | (show AW _ _ (.skip) _ _ _; refine Aj ?_; first | show AW _ _ _ _ _ _ | show ∃ x', _ < _ ∧ _) | (show AW _ _ (.ret) _ _ _; refine At ?_; try dsimp only [Ay, Ab, A6, Ah]) | fail)
  refine Ae rfl (r_lookLo (n := 1) hj hk hG rfl rfl rfl rfl rfl rfl rfl rfl rfl rfl ?_)
  repeat' (first
    | ((show AL _ _ _ _ _ _ _ _; refine Ae Y ?_); (first
      | refine Ap hG Y Y ?_
      | refine A3 hG Y Y ?_
      | (show AOp _ _ ⟨_, .lookup _ _ _ _, _, _, _, _⟩ _ _ _; first | refine r_lookF hG Y Y Y Y Y Y Y Y Y ?_ | refine r_lookFo hG Y Y Y Y Y Y Y Y Y ?_ | refine r_lookL (n := 0) hG Y Y Y Y Y Y Y Y Y Y ?_ | refine r_lookL (n := 1) hG Y Y Y Y Y Y Y Y Y Y ?_)
      | (show AOp _ _ ⟨_, .binOp _ _ _ _ _, _, _, _, _⟩ _ _ _; first | refine Bj hG Y Y Y ?_ | refine Bw hG Y Y Y Y ?_)
      | (show AOp _ _ ⟨_, .load _ _, _, _, _, _⟩ _ _ _; first | refine A5 0 sbT hG Y Y Y Y Y (by omega) Y ?_ | refine A4 0 sbT hG Y Y Y Y Y (by omega) Y ?_ | refine A5 1 sbT hG Y Y Y Y Y (by omega) Y ?_ | refine A4 1 sbT hG Y Y Y Y Y (by omega) Y ?_ | refine A5 2 sbT hG Y Y Y Y Y (by omega) Y ?_ | refine A4 2 sbT hG Y Y Y Y Y (by omega) Y ?_ | refine A5 3 sbT hG Y Y Y Y Y (by omega) Y ?_ | refine A4 3 sbT hG Y Y Y Y Y (by omega) Y ?_ | refine Ak (α := UInt16) 0 hG Y Y Y Y (by omega) Y ?_ | refine Ak (α := UInt16) 1 hG Y Y Y Y (by omega) Y ?_ | refine A8 0 hG Y Y Y Y ?_ | refine A8 1 hG Y Y Y Y ?_)
      | refine Bn hG Y Y Y ?_
      | refine r_q hG Y Y Y ?_))
    | (show AL _ _ _ _ _ _ _ _; first | refine Bi Y Y Y ?_ | (refine As ?_; first | show AW _ _ _ _ _ _ | show ∃ x', _ < _ ∧ _)) | (show AW _ _ (.seq _ _) _ _ _; refine Ai ?_; intro Q1) | (show AW _ _ (.region _ _ false) _ _ _; refine Ad ?_; intro O1) | (show AW _ _ (.cond _ _ _) _ _ _; first | refine Am Y ?_ | refine Al Y ?_ | refine Bd Y (fun h => ?_) (fun h => ?_)) | (show AW _ _ (.skip) _ _ _; refine Aj ?_; first | show AW _ _ _ _ _ _ | show ∃ x', _ < _ ∧ _) | (show AW _ _ (.ret) _ _ _; refine At ?_; try dsimp only [Ay, Ab, A6, Ah]) | fail)
  exact ret_onL (Bq rfl (Bq rfl Bl)) (.refl _) (.refl _) (.refl _) rfl ⟨rfl, rfl⟩
theorem arena_Get_is (v : UInt8) (l : List SB) (at' : List (Nat × Int)) {id j : Nat} (hk : khas at' id = true) (hj : klook at' id = ((j : Nat) : Int)) (hjl : j < l.length) (ht : (l.getD j default).taken = true) (hb : (l.getD j default).bs.length ≤ 1000000) (p ri m : Nat) :
    OnL Try.prog 41 [.ptr p 0, .int .u64 (id : Int)] (arL v l at' p ri m) (fun u L => u = .tup [sT (l.getD j default).bs, .int .i64 0] ∧ L = arL v l at' p ri m) := by
  have hf := And.intro (arena_find_is v l at' hk hj p ri m) (List.Perm.of_eq (List.append_nil (arL v l at' p ri m)).symm)
  have hc := clone_p (b := (l.getD j default).bs) (by omega)
  have hne : l ≠ [] := by intro h; subst h; simp at hjl
  have hA : arL v l at' p ri m = [(p, .cells [bT v, .aref 4 ri 0 l.length none, .map (some m)]), (m, .map (at'.map kvT)), (ri, .cells (flat (l.map sbT)))] := by
    unfold arL; rw [slT_ne hne, rowOf_ne hne]
  have hrec : recT (l.getD j default) = sT (l.getD j default).bs := by unfold recT; rw [ht]; rfl
  rw [hA] at hf ⊢
  intro off
  refine Bp (N := 26) (rs := [.tmp 4, .tmp 5]) hG Try.func41 rfl rfl rfl rfl rfl ?_
  repeat' (first
    | ((show AL _ _ _ _ _ _ _ _; refine Ae Y ?_); (first
      | refine Ap hG Y Y ?_
      | refine A3 hG Y Y ?_
      | (show AOp _ _ ⟨_, .binOp _ _ _ _ _, _, _, _, _⟩ _ _ _; first | refine Au hG Y Y Y Y Y (by omega) ?_ | refine Av hG Y Y Y Y Y (by omega) ?_ | (refine Ao hG Y Y Y Y Y (fun h => ?_) (fun h => ?_)) | refine Bw hG Y Y Y Y ?_)
      | (show AOp _ _ ⟨_, .load _ _, _, _, _, _⟩ _ _ _; first | refine A5 0 sbT hG Y Y Y Y Y (by omega) Y ?_ | refine A4 0 sbT hG Y Y Y Y Y (by omega) Y ?_ | refine A5 1 sbT hG Y Y Y Y Y (by omega) Y ?_ | refine A4 1 sbT hG Y Y Y Y Y (by omega) Y ?_ | refine A5 2 sbT hG Y Y Y Y Y (by omega) Y ?_ | refine A4 2 sbT hG Y Y Y Y Y (by omega) Y ?_ | refine A5 3 sbT hG Y Y Y Y Y (by omega) Y ?_ | refine A4 3 sbT hG Y Y Y Y Y (by omega) Y ?_ | refine Ak (α := UInt16) 0 hG Y Y Y Y (by omega) Y ?_ | refine Ak (α := UInt16) 1 hG Y Y Y Y (by omega) Y ?_ | refine Ax hG Y Y Y ?_ | refine A8 0 hG Y Y Y Y ?_ | refine A8 1 hG Y Y Y Y ?_)
      | (show AOp _ _ ⟨_, .indexAddr _ _ _, _, _, _, _⟩ _ _ _; first | refine Bz (sz := 4) hG Y Y Y Y Y Y Y (by omega) ?_ | refine A2 hG Y Y Y Y Y Y Y (by omega) ?_ | refine Aw hG Y Y Y Y Y Y Y (by omega) ?_ | refine Az hG Y Y Y Y Y Y Y (by omega) ?_ | refine A9 hG Y Y ?_)
      | (show AOp _ _ ⟨_, .call ⟨.value _, _, _⟩, _, _, _, _⟩ _ _ _; first | refine r_onS Y Y Y Y hf.1 hf.2 ?_ | fail)
      | refine r_q hG Y Y Y ?_))
    | (show AL _ _ _ _ _ _ _ _; first | refine Bi Y Y Y ?_ | (refine As ?_; first | show AW _ _ _ _ _ _ | show ∃ x', _ < _ ∧ _)) | (show AW _ _ (.seq _ _) _ _ _; refine Ai ?_; intro Q1) | (show AW _ _ (.region _ _ false) _ _ _; refine Ad ?_; intro O1) | (show AW _ _ (.cond _ _ _) _ _ _; first | refine Am Y ?_ | refine Al Y ?_ | refine Bd Y (fun h => ?_) (fun h => ?_)) | (show AW _ _ (.skip) _ _ _; refine Aj ?_; first | show AW _ _ _ _ _ _ | show ∃ x', _ < _ ∧ _) | (show AW _ _ (.ret) _ _ _; refine At ?_; try dsimp only [Ay, Ab, A6, Ah]) | fail)
  refine al_slot 24 rfl (u := sT (l.getD j default).bs) (.eq hrec) ?_
  repeat' (first
    | ((show AL _ _ _ _ _ _ _ _; refine Ae Y ?_); (first
      | refine Ap hG Y Y ?_
      | refine A3 hG Y Y ?_
      | (show AOp _ _ ⟨_, .binOp _ _ _ _ _, _, _, _, _⟩ _ _ _; first | refine Au hG Y Y Y Y Y (by omega) ?_ | refine Av hG Y Y Y Y Y (by omega) ?_ | (refine Ao hG Y Y Y Y Y (fun h => ?_) (fun h => ?_)) | refine Bw hG Y Y Y Y ?_)
      | (show AOp _ _ ⟨_, .load _ _, _, _, _, _⟩ _ _ _; first | refine A5 0 sbT hG Y Y Y Y Y (by omega) Y ?_ | refine A4 0 sbT hG Y Y Y Y Y (by omega) Y ?_ | refine A5 1 sbT hG Y Y Y Y Y (by omega) Y ?_ | refine A4 1 sbT hG Y Y Y Y Y (by omega) Y ?_ | refine A5 2 sbT hG Y Y Y Y Y (by omega) Y ?_ | refine A4 2 sbT hG Y Y Y Y Y (by omega) Y ?_ | refine A5 3 sbT hG Y Y Y Y Y (by omega) Y ?_ | refine A4 3 sbT hG Y Y Y Y Y (by omega) Y ?_ | refine Ak (α := UInt16) 0 hG Y Y Y Y (by omega) Y ?_ | refine Ak (α := UInt16) 1 hG Y Y Y Y (by omega) Y ?_ | refine Ax hG Y Y Y ?_ | refine A8 0 hG Y Y Y Y ?_ | refine A8 1 hG Y Y Y Y ?_)
      | (show AOp _ _ ⟨_, .indexAddr _ _ _, _, _, _, _⟩ _ _ _; first | refine Bz (sz := 4) hG Y Y Y Y Y Y Y (by omega) ?_ | refine A2 hG Y Y Y Y Y Y Y (by omega) ?_ | refine Aw hG Y Y Y Y Y Y Y (by omega) ?_ | refine Az hG Y Y Y Y Y Y Y (by omega) ?_ | refine A9 hG Y Y ?_)
      | (show AOp _ _ ⟨_, .call ⟨.value _, _, _⟩, _, _, _, _⟩ _ _ _; first | refine B0 Y Y Y Y Y (by first | (apply hc <;> (first | assumption | omega | exact Bf _ _ | exact Bo _ | exact Bk _ _ | exact Bs _ | rfl | (simp; omega))) | fail) ?_ | fail)
      | refine r_q hG Y Y Y ?_))
    | (show AL _ _ _ _ _ _ _ _; first | refine Bi Y Y Y ?_ | (refine As ?_; first | show AW _ _ _ _ _ _ | show ∃ x', _ < _ ∧ _)) | (show AW _ _ (.seq _ _) _ _ _; refine Ai ?_; intro Q1) | (show AW _ _ (.region _ _ false) _ _ _; refine Ad ?_; intro O1) | (show AW _ _ (.cond _ _ _) _ _ _; first | refine Am Y ?_ | refine Al Y ?_ | refine Bd Y (fun h => ?_) (fun h => ?_)) | (show AW _ _ (.skip) _ _ _; refine Aj ?_; first | show AW _ _ _ _ _ _ | show ∃ x', _ < _ ∧ _) | (show AW _ _ (.ret) _ _ _; refine At ?_; try dsimp only [Ay, Ab, A6, Ah]) | fail)
  exact ret_onL (Bq rfl (Bq rfl Bl)) (.refl _) (.refl _) (.refl _) rfl ⟨rfl, rfl⟩
def stepB (l : List SB) (at' : List (Nat × Int)) (out : List UInt8) (id : Nat) : List UInt8 := putBs (out ++ putI (id : Int) 8) (l.getD (klook at' id).toNat default).bs
def bytesA (l : List SB) (at' : List (Nat × Int)) : List UInt8 := (idsA l).foldl (stepB l at') []
structure ByX (r : List Nat) where
  i : Nat
  hi : i ≤ r.length
theorem idsA_len (l : List SB) : (idsA l).length ≤ l.length := by
  unfold idsA namesOf
  rw [srtL_len, List.length_map]
  exact List.length_filter_le _ _
theorem idsA_lt (l : List SB) : ∀ id ∈ idsA l, id < 18446744073709551616 := by
  intro id hid
  obtain ⟨s, _, rfl⟩ := List.mem_map.1 ((srtL_spec _).1.mem_iff.1 hid)
  exact s.hid
theorem foldB_len {l : List SB} {at' : List (Nat × Int)} (hb : ∀ s ∈ l, s.bs.length ≤ 60000) : ∀ (r : List Nat) (out : List UInt8), (r.foldl (stepB l at') out).length ≤ out.length + r.length * 70000
  | [], out => by simp
  | id :: r, out => by
    have h1 := foldB_len (at' := at') hb r (stepB l at' out id)
    have h2 : (stepB l at' out id).length ≤ out.length + 70000 := by
      unfold stepB putBs
      have h3 : (l.getD (klook at' id).toNat default).bs.length ≤ 60000 := by
        rcases Nat.lt_or_ge (klook at' id).toNat l.length with h | h
        · exact hb _ (by simp [List.getD, h])
        · simp [List.getD, List.getElem?_eq_none h, show (default : SB).bs = [] from rfl]
      have h4 := putI_le (id : Int) 8
      have h5 := putI_le ((l.getD (klook at' id).toNat default).bs.length : Int) 2
      simp only [List.length_append]; omega
    rw [List.foldl_cons, List.length_cons]; omega
set_option maxHeartbeats 1000000 in
theorem arena_Bytes (v : UInt8) (l : List SB) (at' : List (Nat × Int)) (hl : l.length ≤ 255) (hb : ∀ s ∈ l, s.bs.length ≤ 60000) (hw : ∀ id ∈ idsA l, ∃ j : Nat, klook at' id = (j : Int) ∧ j < l.length ∧ (l.getD j default).taken = true) (p ri m : Nat) :
    OnL Try.prog 34 [.ptr p 0] (arL v l at' p ri m) (fun u L => u = sT (bytesA l at') ∧ L = arL v l at' p ri m) := by
  have hI := And.intro (arena_IDs v l at' hl p ri m) (List.Perm.of_eq (List.append_nil (arL v l at' p ri m)).symm)
  have hR : bytesA l at' = (idsA l).foldl (stepB l at') [] := rfl
  have hlt := idsA_lt l
  have hrl := idsA_len l
  rw [hR]
  clear hR
  generalize idsA l = r at *
  intro off
  refine Bp (N := 32) (rs := [.tmp 2]) hG Try.func34 rfl rfl rfl rfl rfl ?_
  repeat' (first
    | ((first | (show AL _ _ _ _ _ _ _ _; refine Ae Y ?_) | (show DL _ _ _ _ _ _ _; refine' A7 Y Y (fun K kk => ?_) ?_; try (show Go.Ts.T; rotate_left))); (first
      | refine Ap hG Y Y ?_
      | refine A3 hG Y Y ?_
      | (show AOp _ _ ⟨_, .call ⟨.builtin .len, _, _⟩, _, _, _, _⟩ _ _ _; first | refine Br hG Y Y Y Y ?_ | refine By hG Y Y Y Y Y ?_)
      | (show AOp _ _ ⟨_, .lookup _ _ _ _, _, _, _, _⟩ _ _ _; first | refine r_lookF hG Y Y Y Y Y Y Y Y Y ?_ | refine r_lookFo hG Y Y Y Y Y Y Y Y Y ?_ | refine r_lookL (n := 0) hG Y Y Y Y Y Y Y Y Y Y ?_ | refine r_lookL (n := 1) hG Y Y Y Y Y Y Y Y Y Y ?_)
      | (show AOp _ _ ⟨_, .binOp .add _ _ _ _, _, _, _, _⟩ _ _ _; first | refine Ac hG Y Y Y Y Y (by omega) ?_ | refine Ac (m := 1) hG Y Y Y Y Y (by omega) ?_ | refine Aa hG Y Y Y Y Y (by omega) ?_)
      | (show AOp _ _ ⟨_, .binOp _ _ _ _ _, _, _, _, _⟩ _ _ _; first | refine Au hG Y Y Y Y Y (by omega) ?_ | refine Av hG Y Y Y Y Y (by omega) ?_ | ((fail_if_success have := kk); refine Ao hG Y Y Y Y Y (fun h => ?_) (fun h => ?_)) | refine Bw hG Y Y Y Y ?_)
      | (show AOp _ _ ⟨_, .load _ _, _, _, _, _⟩ _ _ _; first | refine A5 0 sbT hG Y Y Y Y Y (by omega) Y ?_ | refine A4 0 sbT hG Y Y Y Y Y (by omega) Y ?_ | refine A5 1 sbT hG Y Y Y Y Y (by omega) Y ?_ | refine A4 1 sbT hG Y Y Y Y Y (by omega) Y ?_ | refine A5 2 sbT hG Y Y Y Y Y (by omega) Y ?_ | refine A4 2 sbT hG Y Y Y Y Y (by omega) Y ?_ | refine A5 3 sbT hG Y Y Y Y Y (by omega) Y ?_ | refine A4 3 sbT hG Y Y Y Y Y (by omega) Y ?_ | refine Ak (α := UInt16) 0 hG Y Y Y Y (by omega) Y ?_ | refine Ak (α := UInt16) 1 hG Y Y Y Y (by omega) Y ?_ | refine Ax hG Y Y Y ?_ | refine A8 0 hG Y Y Y Y ?_ | refine A8 1 hG Y Y Y Y ?_)
      | (show AOp _ _ ⟨_, .indexAddr _ _ _, _, _, _, _⟩ _ _ _; first | refine Bz (sz := 4) hG Y Y Y Y Y Y Y (by omega) ?_ | refine A2 hG Y Y Y Y Y Y Y (by omega) ?_ | refine Aw hG Y Y Y Y Y Y Y (by omega) ?_ | refine Az hG Y Y Y Y Y Y Y (by omega) ?_ | refine A9 hG Y Y ?_)
      | (show AOp _ _ ⟨_, .call ⟨.value _, _, _⟩, _, _, _, _⟩ _ _ _; first | refine r_onS Y Y Y Y hI.1 hI.2 ?_ | fail)
      | refine r_q hG Y Y Y ?_); try exact kk)
    | (show AL _ _ _ _ _ _ _ _; first | refine Bi Y Y Y ?_ | (refine As ?_; first | show AW _ _ _ _ _ _ | show ∃ x', _ < _ ∧ _)) | (show AW _ _ (.seq _ _) _ _ _; refine Ai ?_; intro Q1) | (show AW _ _ (.region _ _ false) _ _ _; refine Ad ?_; intro O1) | (show AW _ _ (.cond _ _ _) _ _ _; first | refine Am Y ?_ | refine Al Y ?_ | refine Bd Y (fun h => ?_) (fun h => ?_)) | (show AW _ _ (.skip) _ _ _; refine Aj ?_; first | show AW _ _ _ _ _ _ | show ∃ x', _ < _ ∧ _) | (show AW _ _ (.block _ _) _ _ _; refine Af ?_; intro Q1) | (show AW _ _ (.exit _) _ _ _; refine Ar ?_; first | show AW _ _ _ _ _ _ | show ∃ x', _ < _ ∧ _) | (show AW _ _ (.ret) _ _ _; refine At ?_; try dsimp only [Ay, Ab, A6, Ah])
    | (show DL _ _ _ _ _ _ _; refine Bu Y Y (fun K kt kf => Ao hG Y Y Y Y Y kt kf) (fun h => ?_) (fun h => ?_))
    | (show DL _ _ _ _ _ _ _; refine Bt Y Y Y ?_) | (show DL _ _ _ _ _ _ _; refine Be ?_; first | show AW _ _ _ _ _ _ | show ∃ x', _ < _ ∧ _) | (show AW _ _ (.region _ _ true) _ _ _; refine A1 mix (by kernel_rfl) ?_; intro O1) | fail)
  refine aw_loop (X := ByX r) (fun x => [(0, .ptr p 0), (3, .sl 1 .no (((r.take x.i).foldl (stepB l at') []).map bT)), (7, .sl 1 .no (r.map mT)), (8, .int .i64 (r.length : Int)), (9, .int .i64 (x.i : Int))]) (fun x => ⟨arL v l at' p ri m, [], off, none⟩) (fun x => r.length - x.i) ⟨0, Nat.zero_le _⟩ (.cons rfl (.consW rfl (.nil 1) (.cons rfl (.cons rfl (.cons rfl (.nil _)))))) (.refl _) ?_
  rintro ⟨q, hi⟩
  dsimp only
  by_cases hil : q < r.length
  · have hks : (r.take (q + 1)).foldl (stepB l at') [] = stepB l at' ((r.take q).foldl (stepB l at') []) (r.getD q default) := by
      rw [List.take_add_one, List.foldl_append]
      simp [hil, List.getD]
    have hol := foldB_len (at' := at') hb (r.take q) []
    rw [List.length_take, List.length_nil] at hol
    have hid := hlt (r.getD q default) (by simp [List.getD, hil])
    obtain ⟨j, hj, hjl, ht⟩ := hw (r.getD q default) (by simp [List.getD, hil])
    generalize (r.take q).foldl (stepB l at') [] = out at *
    have hst : stepB l at' out (r.getD q default) = putBs (out ++ putI ((r.getD q default : Nat) : Int) 8) (l.getD j default).bs := by
      unfold stepB; rw [hj, Int.toNat_natCast]
    rw [hst] at hks
    have hne : l ≠ [] := by intro h; subst h; simp at hjl
    have hA : arL v l at' p ri m = [(p, .cells [bT v, .aref 4 ri 0 l.length none, .map (some m)]), (m, .map (at'.map kvT)), (ri, .cells (flat (l.map sbT)))] := by
      unfold arL; rw [slT_ne hne, rowOf_ne hne]
    have hrec : recT (l.getD j default) = sT (l.getD j default).bs := by unfold recT; rw [ht]; rfl
    have h1 := (num_Put (x := .sl 1 .no (out.map bT)) (b := out) (v := ((r.getD q default : Nat) : Int)) (n := 8) (Bf _ _) (by omega) (by omega)).pure
    have h4 := putI_le ((r.getD q default : Nat) : Int) 8
    have h5 : (l.getD j default).bs.length ≤ 60000 := hb _ (by simp [List.getD, hjl])
    have h2 := (num_PutBytes (x := .sl 1 .no ((out ++ putI ((r.getD q default : Nat) : Int) 8).map bT)) (y := recT (l.getD j default)) (b := out ++ putI ((r.getD q default : Nat) : Int) 8) (s := (l.getD j default).bs) (Bf _ _) (by rw [hrec]; exact Bo _) (by simp only [List.length_append]; omega) (by omega)).pure
    rw [hA]
    repeat' (first
    | ((first | (show AL _ _ _ _ _ _ _ _; refine Ae Y ?_) | (show DL _ _ _ _ _ _ _; refine' A7 Y Y (fun K kk => ?_) ?_; try (show Go.Ts.T; rotate_left))); (first
      | refine Ap hG Y Y ?_
      | refine A3 hG Y Y ?_
      | (show AOp _ _ ⟨_, .call ⟨.builtin .len, _, _⟩, _, _, _, _⟩ _ _ _; first | refine Br hG Y Y Y Y ?_ | refine By hG Y Y Y Y Y ?_)
      | (show AOp _ _ ⟨_, .lookup _ _ _ _, _, _, _, _⟩ _ _ _; first | refine r_lookLv (n := 1) hj hG Y Y Y Y Y Y Y Y Y Y ?_ | refine r_lookLv (n := 0) hj hG Y Y Y Y Y Y Y Y Y Y ?_ | refine r_lookF hG Y Y Y Y Y Y Y Y Y ?_ | refine r_lookFo hG Y Y Y Y Y Y Y Y Y ?_ | refine r_lookL (n := 0) hG Y Y Y Y Y Y Y Y Y Y ?_ | refine r_lookL (n := 1) hG Y Y Y Y Y Y Y Y Y Y ?_)
      | (show AOp _ _ ⟨_, .binOp .add _ _ _ _, _, _, _, _⟩ _ _ _; first | refine Ac hG Y Y Y Y Y (by omega) ?_ | refine Ac (m := 1) hG Y Y Y Y Y (by omega) ?_ | refine Aa hG Y Y Y Y Y (by omega) ?_)
      | (show AOp _ _ ⟨_, .binOp _ _ _ _ _, _, _, _, _⟩ _ _ _; first | refine Au hG Y Y Y Y Y (by omega) ?_ | refine Av hG Y Y Y Y Y (by omega) ?_ | ((fail_if_success have := kk); refine Ao hG Y Y Y Y Y (fun h => ?_) (fun h => ?_)) | refine Bw hG Y Y Y Y ?_)
      | (show AOp _ _ ⟨_, .load _ _, _, _, _, _⟩ _ _ _; first | refine A5 0 sbT hG Y Y Y Y Y (by omega) Y ?_ | refine A4 0 sbT hG Y Y Y Y Y (by omega) Y ?_ | refine A5 1 sbT hG Y Y Y Y Y (by omega) Y ?_ | refine A4 1 sbT hG Y Y Y Y Y (by omega) Y ?_ | refine A5 2 sbT hG Y Y Y Y Y (by omega) Y ?_ | refine A4 2 sbT hG Y Y Y Y Y (by omega) Y ?_ | refine A5 3 sbT hG Y Y Y Y Y (by omega) Y ?_ | refine A4 3 sbT hG Y Y Y Y Y (by omega) Y ?_ | refine Ak (α := UInt16) 0 hG Y Y Y Y (by omega) Y ?_ | refine Ak (α := UInt16) 1 hG Y Y Y Y (by omega) Y ?_ | refine Ax hG Y Y Y ?_ | refine A8 0 hG Y Y Y Y ?_ | refine A8 1 hG Y Y Y Y ?_)
      | (show AOp _ _ ⟨_, .indexAddr _ _ _, _, _, _, _⟩ _ _ _; first | refine Bz (sz := 4) hG Y Y Y Y Y Y Y (by omega) ?_ | refine A2 hG Y Y Y Y Y Y Y (by omega) ?_ | refine Aw hG Y Y Y Y Y Y Y (by omega) ?_ | refine Az hG Y Y Y Y Y Y Y (by omega) ?_ | refine A9 hG Y Y ?_)
      | (show AOp _ _ ⟨_, .call ⟨.value _, _, _⟩, _, _, _, _⟩ _ _ _; first | refine B0 Y Y Y Y Y (by first | (apply h1 <;> (first | assumption | omega | exact Bf _ _ | exact Bo _ | exact Bk _ _ | exact Bs _ | rfl | (simp; omega))) | fail) ?_ | refine B0 Y Y Y Y Y (by first | (apply h2 <;> (first | assumption | omega | exact Bf _ _ | exact Bo _ | exact Bk _ _ | exact Bs _ | rfl | (simp; omega))) | fail) ?_ | fail)
      | refine r_q hG Y Y Y ?_); try exact kk)
    | (show AL _ _ _ _ _ _ _ _; first | refine Bi Y Y Y ?_ | (refine As ?_; first | show AW _ _ _ _ _ _ | show ∃ x', _ < _ ∧ _)) | (show AW _ _ (.seq _ _) _ _ _; refine Ai ?_; intro Q1) | (show AW _ _ (.region _ _ false) _ _ _; refine Ad ?_; intro O1) | (show AW _ _ (.cond _ _ _) _ _ _; first | refine Am Y ?_ | refine Al Y ?_ | refine Bd Y (fun h => ?_) (fun h => ?_)) | (show AW _ _ (.skip) _ _ _; refine Aj ?_; first | show AW _ _ _ _ _ _ | show ∃ x', _ < _ ∧ _) | (show AW _ _ (.block _ _) _ _ _; refine Af ?_; intro Q1) | (show AW _ _ (.exit _) _ _ _; refine Ar ?_; first | show AW _ _ _ _ _ _ | show ∃ x', _ < _ ∧ _) | (show AW _ _ (.ret) _ _ _; refine At ?_; try dsimp only [Ay, Ab, A6, Ah])
    | (show DL _ _ _ _ _ _ _; refine Bu Y Y (fun K kt kf => Ao hG Y Y Y Y Y kt kf) (fun h => ?_) (fun h => ?_))
    | (show DL _ _ _ _ _ _ _; refine Bt Y Y Y ?_) | (show DL _ _ _ _ _ _ _; refine Be ?_; first | show AW _ _ _ _ _ _ | show ∃ x', _ < _ ∧ _) | (show AW _ _ (.region _ _ true) _ _ _; refine A1 mix (by kernel_rfl) ?_; intro O1) | fail)
    exact ⟨⟨q + 1, by omega⟩, by dsimp only; omega, .cons rfl (.consW rfl (.eq (by dsimp only; rw [hks])) (.cons rfl (.cons rfl (.cons rfl (.nil _))))), .refl _⟩
  · rw [List.take_of_length_le (by omega)]
    repeat' (first
    | ((first | (show AL _ _ _ _ _ _ _ _; refine Ae Y ?_) | (show DL _ _ _ _ _ _ _; refine' A7 Y Y (fun K kk => ?_) ?_; try (show Go.Ts.T; rotate_left))); (first
      | refine Ap hG Y Y ?_
      | refine A3 hG Y Y ?_
      | (show AOp _ _ ⟨_, .call ⟨.builtin .len, _, _⟩, _, _, _, _⟩ _ _ _; first | refine Br hG Y Y Y Y ?_ | refine By hG Y Y Y Y Y ?_)
      | (show AOp _ _ ⟨_, .lookup _ _ _ _, _, _, _, _⟩ _ _ _; first | refine r_lookF hG Y Y Y Y Y Y Y Y Y ?_ | refine r_lookFo hG Y Y Y Y Y Y Y Y Y ?_ | refine r_lookL (n := 0) hG Y Y Y Y Y Y Y Y Y Y ?_ | refine r_lookL (n := 1) hG Y Y Y Y Y Y Y Y Y Y ?_)
      | (show AOp _ _ ⟨_, .binOp .add _ _ _ _, _, _, _, _⟩ _ _ _; first | refine Ac hG Y Y Y Y Y (by omega) ?_ | refine Ac (m := 1) hG Y Y Y Y Y (by omega) ?_ | refine Aa hG Y Y Y Y Y (by omega) ?_)
      | (show AOp _ _ ⟨_, .binOp _ _ _ _ _, _, _, _, _⟩ _ _ _; first | refine Au hG Y Y Y Y Y (by omega) ?_ | refine Av hG Y Y Y Y Y (by omega) ?_ | ((fail_if_success have := kk); refine Ao hG Y Y Y Y Y (fun h => ?_) (fun h => ?_)) | refine Bw hG Y Y Y Y ?_)
      | (show AOp _ _ ⟨_, .load _ _, _, _, _, _⟩ _ _ _; first | refine A5 0 sbT hG Y Y Y Y Y (by omega) Y ?_ | refine A4 0 sbT hG Y Y Y Y Y (by omega) Y ?_ | refine A5 1 sbT hG Y Y Y Y Y (by omega) Y ?_ | refine A4 1 sbT hG Y Y Y Y Y (by omega) Y ?_ | refine A5 2 sbT hG Y Y Y Y Y (by omega) Y ?_ | refine A4 2 sbT hG Y Y Y Y Y (by omega) Y ?_ | refine A5 3 sbT hG Y Y Y Y Y (by omega) Y ?_ | refine A4 3 sbT hG Y Y Y Y Y (by omega) Y ?_ | refine Ak (α := UInt16) 0 hG Y Y Y Y (by omega) Y ?_ | refine Ak (α := UInt16) 1 hG Y Y Y Y (by omega) Y ?_ | refine Ax hG Y Y Y ?_ | refine A8 0 hG Y Y Y Y ?_ | refine A8 1 hG Y Y Y Y ?_)
      | (show AOp _ _ ⟨_, .indexAddr _ _ _, _, _, _, _⟩ _ _ _; first | refine Bz (sz := 4) hG Y Y Y Y Y Y Y (by omega) ?_ | refine A2 hG Y Y Y Y Y Y Y (by omega) ?_ | refine Aw hG Y Y Y Y Y Y Y (by omega) ?_ | refine Az hG Y Y Y Y Y Y Y (by omega) ?_ | refine A9 hG Y Y ?_)
      | refine r_q hG Y Y Y ?_); try exact kk)
    | (show AL _ _ _ _ _ _ _ _; first | refine Bi Y Y Y ?_ | (refine As ?_; first | show AW _ _ _ _ _ _ | show ∃ x', _ < _ ∧ _)) | (show AW _ _ (.seq _ _) _ _ _; refine Ai ?_; intro Q1) | (show AW _ _ (.region _ _ false) _ _ _; refine Ad ?_; intro O1) | (show AW _ _ (.cond _ _ _) _ _ _; first | refine Am Y ?_ | refine Al Y ?_ | refine Bd Y (fun h => ?_) (fun h => ?_)) | (show AW _ _ (.skip) _ _ _; refine Aj ?_; first | show AW _ _ _ _ _ _ | show ∃ x', _ < _ ∧ _) | (show AW _ _ (.block _ _) _ _ _; refine Af ?_; intro Q1) | (show AW _ _ (.exit _) _ _ _; refine Ar ?_; first | show AW _ _ _ _ _ _ | show ∃ x', _ < _ ∧ _) | (show AW _ _ (.ret) _ _ _; refine At ?_; try dsimp only [Ay, Ab, A6, Ah])
    | (show DL _ _ _ _ _ _ _; refine Bu Y Y (fun K kt kf => Ao hG Y Y Y Y Y kt kf) (fun h => ?_) (fun h => ?_))
    | (show DL _ _ _ _ _ _ _; refine Bt Y Y Y ?_) | (show DL _ _ _ _ _ _ _; refine Be ?_; first | show AW _ _ _ _ _ _ | show ∃ x', _ < _ ∧ _) | (show AW _ _ (.region _ _ true) _ _ _; refine A1 mix (by kernel_rfl) ?_; intro O1) | fail)
    exact ret_onL (Bq rfl Bl) (.refl _) (.refl _) (.refl _) rfl ⟨rfl, rfl⟩
end Go.Proofs.Ythfgocinlbogeaa
namespace Go.Proofs.Ythfgocinlbogeaa
open Go.Ts
set_option linter.unusedSimpArgs false
set_option linter.unusedVariables false
set_option linter.unnecessarySimpa false
structure WFA (l : List SB) (at' : List (Nat × Int)) : Prop where
  a : ∀ j, j < l.length → (l.getD j default).taken = true → khas at' (l.getD j default).id = true ∧ klook at' (l.getD j default).id = ((j : Nat) : Int)
  b : ∀ id, khas at' id = true → ∃ j : Nat, klook at' id = (j : Int) ∧ j < l.length ∧ (l.getD j default).taken = true ∧ (l.getD j default).id = id
theorem khas_kset (m : List (Nat × Int)) (k : Nat) (v : Int) (k' : Nat) : khas (kset m k v) k' = (decide (k' = k) || khas m k') := by
  have h : ∀ (m : List (Nat × Int)) (k : Nat), khas m k = decide (k ∈ m.map (·.1)) := fun m k => by
    have := khas_iff (k := k) m 0
    unfold khas
    cases h1 : (kfind k m 0).isSome with
    | true => rw [h1] at this; rw [decide_eq_true (this.1 rfl)]
    | false => rw [h1] at this; rw [decide_eq_false (fun h2 => by have := this.2 h2; cases this)]
  rw [h, h, keys_kset]
  split
  · rename_i h1
    by_cases h2 : k' = k
    · subst h2; simp [h1]
    · simp [h2]
  · by_cases h2 : k' = k <;> simp [h2]
theorem getD_set {l : List SB} {j k : Nat} {s : SB} (hk : k < l.length) : (l.set j s).getD k default = if j = k then s else l.getD k default := by
  simp only [List.getD, List.getElem?_set]
  by_cases h : j = k
  · subst h; simp [hk]
  · simp [h]
theorem wfa_nil : WFA [] [] := ⟨fun j hj => by simp at hj, fun id h => by simp [khas, kfind] at h⟩
theorem freeI_free : ∀ (l : List SB) (i : Nat), 0 ≤ freeI l i → ∃ k, freeI l i = ((i + k : Nat) : Int) ∧ k < l.length ∧ (l.getD k default).taken = false
  | [], i, h => by simp [freeI] at h
  | s :: l, i, h => by
    rw [freeI] at h ⊢
    split
    · rename_i h1
      rw [if_pos h1] at h
      obtain ⟨k, g1, g2, g3⟩ := freeI_free l (i + 1) h
      exact ⟨k + 1, by rw [g1]; omega, by simpa using g2, by simpa [List.getD] using g3⟩
    · rename_i h1
      exact ⟨0, by simp, by simp, by simpa [List.getD] using h1⟩
theorem flS_spec (l : List SB) : ((flS l).getD (fidx l) default).taken = false ∧ (∀ k, k < (flS l).length → k ≠ fidx l → k < l.length ∧ (flS l).getD k default = l.getD k default) ∧ (∀ k, k < l.length → k < (flS l).length ∧ (flS l).getD k default = l.getD k default) := by
  unfold flS fidx
  by_cases h : freeI l 0 < 0
  · rw [if_pos h, if_pos h]
    refine ⟨by simp [List.getD, show (default : SB).taken = false from rfl], fun k hk hne => ?_, fun k hk => ?_⟩
    · rw [List.length_append, List.length_singleton] at hk
      have : k < l.length := by omega
      exact ⟨this, by simp only [List.getD]; rw [List.getElem?_append_left this]⟩
    · exact ⟨by rw [List.length_append]; omega, by simp only [List.getD]; rw [List.getElem?_append_left hk]⟩
  · rw [if_neg h, if_neg h]
    obtain ⟨k, g1, g2, g3⟩ := freeI_free l 0 (by omega)
    have e : (freeI l 0).toNat = k := by omega
    rw [e]
    exact ⟨g3, fun k hk _ => ⟨hk, rfl⟩, fun k hk => ⟨hk, rfl⟩⟩
theorem wfa_new {l : List SB} {at' : List (Nat × Int)} (h : WFA l at') {id : Nat} (hk : khas at' id = false) (s : SB) (hs : s.taken = true ∧ s.id = id) : WFA ((flS l).set (fidx l) s) (kset at' id ((fidx l : Nat) : Int)) := by
  obtain ⟨s1, s2, s3⟩ := flS_spec l
  have hlt := (fidx_lt l).1
  refine ⟨fun k hk' ht => ?_, fun id' hk' => ?_⟩
  · rw [List.length_set] at hk'
    rw [getD_set hk'] at ht ⊢
    rw [khas_kset, klook_kset]
    by_cases e : fidx l = k
    · subst e; rw [if_pos rfl] at ht ⊢; rw [hs.2]; simp
    · rw [if_neg e] at ht ⊢
      obtain ⟨g1, g2⟩ := s2 k hk' (Ne.symm e)
      rw [g2] at ht ⊢
      obtain ⟨g3, g4⟩ := h.a k g1 ht
      have g5 : (l.getD k default).id ≠ id := by rintro g5; rw [g5, hk] at g3; cases g3
      rw [if_neg g5, g3, g4]; simp
  · rw [khas_kset] at hk'
    rw [klook_kset]
    by_cases e : id' = id
    · subst e
      rw [if_pos rfl]
      exact ⟨fidx l, rfl, by rw [List.length_set]; exact hlt, by rw [getD_set hlt, if_pos rfl]; exact hs⟩
    · rw [if_neg e]
      rw [decide_eq_false e, Bool.false_or] at hk'
      obtain ⟨k, g1, g2, g3, g4⟩ := h.b id' hk'
      obtain ⟨g5, g6⟩ := s3 k g2
      refine ⟨k, g1, by rw [List.length_set]; exact g5, ?_⟩
      rw [getD_set g5]
      by_cases e2 : fidx l = k
      · rw [← e2] at g6 g3; rw [← g6, s1] at g3; cases g3
      · rw [if_neg e2, g6]; exact ⟨g3, g4⟩
theorem names_mem {l : List SB} {at' : List (Nat × Int)} (h : WFA l at') (id : Nat) : id ∈ namesOf l ↔ khas at' id = true := by
  unfold namesOf
  rw [List.mem_map]
  constructor
  · rintro ⟨s, hs, rfl⟩
    obtain ⟨h1, h2⟩ := List.mem_filter.1 hs
    obtain ⟨j, hj, rfl⟩ := List.mem_iff_getElem.1 h1
    have := h.a j hj (by simpa [List.getD, hj] using h2)
    simpa [List.getD, hj] using this.1
  · intro hk
    obtain ⟨j, g1, g2, g3, g4⟩ := h.b id hk
    refine ⟨l.getD j default, List.mem_filter.2 ⟨by simp [List.getD, g2], g3⟩, g4⟩
theorem names_nodup {l : List SB} {at' : List (Nat × Int)} (h : WFA l at') : (namesOf l).Nodup := by
  have : ∀ n, n ≤ l.length → (namesOf (l.take n)).Nodup := by
    intro n
    induction n with
    | zero => intro _; simp [namesOf]
    | succ n ih =>
      intro hn
      rw [names_succ (by omega)]
      cases ht : (l.getD n default).taken with
      | false => simpa using ih (by omega)
      | true =>
        rw [if_pos rfl]
        refine List.nodup_append.2 ⟨ih (by omega), by simp, fun a ha b hb => ?_⟩
        simp only [List.mem_singleton] at hb; subst hb
        rintro rfl
        unfold namesOf at ha
        obtain ⟨s, hs, he⟩ := List.mem_map.1 ha
        obtain ⟨h1, h2⟩ := List.mem_filter.1 hs
        obtain ⟨j, hj, rfl⟩ := List.mem_iff_getElem.1 h1
        rw [List.length_take] at hj
        rw [List.getElem_take] at he h2
        have g1 := h.a n (by omega) ht
        have g2 := h.a j (by omega) (by simpa [List.getD, show j < l.length by omega] using h2)
        have e : (l.getD j default).id = (l.getD n default).id := by rw [← he]; simp [List.getD, show j < l.length by omega]
        rw [e, g1.2] at g2
        have := g2.2
        omega
  simpa using this l.length (Nat.le_refl _)
end Go.Proofs.Ythfgocinlbogeaa
namespace Go.Ts
set_option linter.unusedSimpArgs false
set_option linter.unusedVariables false
section
variable {G : Nat → Option TI}
theorem wf_u8 {n : Int} (h : (Lit.int .u8 n).wf = true) : 0 ≤ n ∧ n < 256 := by
  simp only [Lit.wf, IntKind.min, IntKind.max, IntKind.bits, IntKind.signed, Bool.and_eq_true] at h; simp at h; omega
theorem argTy_cells {n t : Nat} {x : T} {ti : TI} (h : ArgTy G n t x) (ht : G t = some ti) (hd : ti.d.agg = false) : Ty G n t [x] := by
  have h1 := h.1
  rwa [(h.2 _ ht).2 hd] at h1
theorem ty_slice {n t e : Nat} {cs : List T} {ti : TI} (h : Ty G (n + 1) t cs) (ht : G t = some ti) (htd : ti.d = .slice e) :
    ∃ xs, cs = [.sl ((sizeT G e).getD 0) .no xs] ∧ xs.length ≤ bigLen ∧ ∀ y ∈ xs, Ty G n e y.cells ∧ AggOK G e y := by
  simpa only [Ty, ht, htd] using h
theorem bytes_of_ty {n e : Nat} {ie : TI} (he : G e = some ie) (hed : ie.d = .int .u8) : ∀ (xs : List T), (∀ y ∈ xs, Ty G (n + 1) e y.cells ∧ AggOK G e y) → ∃ b : List UInt8, xs = b.map bT
  | [], _ => ⟨[], rfl⟩
  | x :: xs, h => by
    obtain ⟨b, hb⟩ := bytes_of_ty he hed xs (fun y hy => h y (List.mem_cons_of_mem _ hy))
    obtain ⟨h1, h2⟩ := h x List.mem_cons_self
    simp only [Ty, he, hed] at h1
    obtain ⟨v, hv, hw⟩ := h1
    obtain ⟨l, u⟩ := wf_u8 hw
    refine ⟨UInt8.ofNat v.toNat :: b, ?_⟩
    have : x = .int .u8 v := by
      have h5 := (h2 _ he).2 (by rw [hed]; rfl)
      rw [h5] at hv; injection hv
    subst this
    rw [hb, List.map_cons]
    congr 1
    unfold bT
    have : (UInt8.ofNat v.toNat).toNat = v.toNat := by simp [UInt8.toNat_ofNat]; omega
    rw [this]; congr 1; omega
theorem ty_bytes {n t e : Nat} {cs : List T} {ti ie : TI} (h : Ty G (n + 2) t cs) (ht : G t = some ti) (htd : ti.d = .slice e) (he : G e = some ie) (hed : ie.d = .int .u8) (hs : ie.size = 1) : ∃ b : List UInt8, cs = [sT b] ∧ b.length ≤ bigLen := by
  obtain ⟨xs, h1, h2, h3⟩ := ty_slice h ht htd
  obtain ⟨b, rfl⟩ := bytes_of_ty he hed xs h3
  exact ⟨b, by rw [h1]; simp [sizeT, he, hs, sT], by simpa using h2⟩
theorem argTy_bytes {n t e : Nat} {x : T} {ti ie : TI} (h : ArgTy G (n + 2) t x) (ht : G t = some ti) (htd : ti.d = .slice e) (he : G e = some ie) (hed : ie.d = .int .u8) (hs : ie.size = 1) : ∃ b : List UInt8, x = sT b ∧ b.length ≤ bigLen := by
  obtain ⟨b, h1, h2⟩ := ty_bytes (argTy_cells h ht (by rw [htd]; rfl)) ht htd he hed hs
  injection h1 with h1
  exact ⟨b, h1, h2⟩
theorem letters_of_ty {n e u : Nat} {ie iu : TI} (he : G e = some ie) (hed : ie.d = .slice u) (hu : G u = some iu) (hud : iu.d = .int .u8) (hs : iu.size = 1) : ∀ (xs : List T), (∀ y ∈ xs, Ty G (n + 2) e y.cells ∧ AggOK G e y) → ∃ l : List (List UInt8), xs = l.map sT ∧ ∀ b ∈ l, b.length ≤ bigLen
  | [], _ => ⟨[], rfl, fun b h => absurd h List.not_mem_nil⟩
  | x :: xs, h => by
    obtain ⟨l, hl, hb⟩ := letters_of_ty he hed hu hud hs xs (fun y hy => h y (List.mem_cons_of_mem _ hy))
    obtain ⟨b, rfl, hbl⟩ := argTy_bytes (h x List.mem_cons_self) he hed hu hud hs
    refine ⟨b :: l, by rw [hl]; rfl, fun c hc => ?_⟩
    rcases List.mem_cons.1 hc with rfl | hc
    · exact hbl
    · exact hb c hc
theorem ty_letters {n t e u : Nat} {cs : List T} {ti ie iu : TI} (h : Ty G (n + 3) t cs) (ht : G t = some ti) (htd : ti.d = .slice e) (he : G e = some ie) (hed : ie.d = .slice u) (hes : ie.size = 1) (hu : G u = some iu) (hud : iu.d = .int .u8) (hs : iu.size = 1) :
    ∃ l : List (List UInt8), cs = [.sl 1 .no (l.map sT)] ∧ l.length ≤ bigLen ∧ ∀ b ∈ l, b.length ≤ bigLen := by
  obtain ⟨xs, h1, h2, h3⟩ := ty_slice h ht htd
  obtain ⟨l, rfl, hb⟩ := letters_of_ty he hed hu hud hs xs h3
  exact ⟨l, by rw [h1]; simp [sizeT, he, hes], by simpa using h2, hb⟩
theorem argTy_letters {n t e u : Nat} {x : T} {ti ie iu : TI} (h : ArgTy G (n + 3) t x) (ht : G t = some ti) (htd : ti.d = .slice e) (he : G e = some ie) (hed : ie.d = .slice u) (hes : ie.size = 1) (hu : G u = some iu) (hud : iu.d = .int .u8) (hs : iu.size = 1) :
    ∃ l : List (List UInt8), x = .sl 1 .no (l.map sT) ∧ l.length ≤ bigLen ∧ ∀ b ∈ l, b.length ≤ bigLen := by
  obtain ⟨l, h1, h2⟩ := ty_letters (argTy_cells h ht (by rw [htd]; rfl)) ht htd he hed hes hu hud hs
  injection h1 with h1
  exact ⟨l, h1, h2⟩
end
end Go.Ts
namespace Go.Ts
section
variable {P : Program} {G : Nat → Option TI} {N : Nat} {σ : St} {a : Env} {K : Env → St → Prop} {d : Tmp} {ty : TypeId} {pos : String} {af : Array Edge} {gd : Option (Nat × Bool)}
theorem OnL.weak {g : FuncId} {ts us : List T} {L0 : List (Nat × Ob)} {R : T → List (Nat × Ob) → Prop} (h : OnL P g us L0 R) (hw : WkL ts us) : OnL P g ts L0 R := fun off => (h off).weakL hw
theorem r_onL0 {f : Operand} {args : Array Operand} {tys : Array TypeId} {g : FuncId} {ts : List T} {L0 : List (Nat × Ob)} {R : T → List (Nat × Ob) → Prop}
    (hf : Ba a f = some (.fn (.func g) [])) (ha : argsT a args.toList = some ts) (hd : Bm N (some d) = true) (hnx : σ.nx = none) (hL : σ.L = L0) (h : OnL P g ts L0 R)
    (k : ∀ u L', R u L' → K (put a (some d) u) { σ with L := L' }) : AOp P N ⟨some d, .call ⟨.value f, args, tys⟩, ty, pos, af, gd⟩ a σ K := by
  refine r_onL hf ha hd hnx (Lf := []) (by rw [hL, List.append_nil]) h ?_
  intro u L' hR
  rw [List.append_nil]; exact k u L' hR
end
end Go.Ts
namespace Go.Proofs.Ythfgocinlbogeaa
open Go.Ts
set_option linter.unusedSimpArgs false
set_option linter.unusedVariables false
set_option linter.unnecessarySimpa false
attribute [local irreducible] Go.Ts.AW Go.Ts.AOps Go.Ts.AL Go.Ts.AOp Go.Ts.ACalls Go.Ts.DL Go.Ts.DQ0 Go.Ts.EL
theorem same_p (v : UInt8) (l : List SB) (at' : List (Nat × Int)) (p ri m : Nat) : (arL v l at' p ri m).Perm (arL v l at' p ri m ++ []) := List.Perm.of_eq (List.append_nil _).symm
abbrev bg1 : List SB := (flS []).set (fidx []) (bump ((flS []).getD (fidx []) default) 5 (by decide) [1, 9])
abbrev bg2 : List (Nat × Int) := kset [] 5 ((fidx [] : Nat) : Int)
theorem arena_begun : Ts.Pure Try.prog 30 [] (.bool true) := by
  intro off
  refine Bp (N := 50) (rs := [.tmp 0]) hG Try.func30 rfl rfl rfl rfl rfl ?_
  repeat' (first
    | ((show AL _ _ _ _ _ _ _ _; refine Ae Y ?_); (first
      | refine Ap hG Y Y ?_
      | refine A3 hG Y Y ?_
      | (show AOp _ _ ⟨_, .call ⟨.builtin .len, _, _⟩, _, _, _, _⟩ _ _ _; first | refine Br hG Y Y Y Y ?_ | refine By hG Y Y Y Y Y ?_)
      | (show AOp _ _ ⟨_, .binOp _ _ _ _ _, _, _, _, _⟩ _ _ _; first | refine Au hG Y Y Y Y Y (by omega) ?_ | refine Av hG Y Y Y Y Y (by omega) ?_ | (refine Ao hG Y Y Y Y Y (fun h => ?_) (fun h => ?_)) | refine Bw hG Y Y Y Y ?_)
      | refine Bc hG Y Y Y ?_
      | (show AOp _ _ ⟨_, .buildSlice _ _ _, _, _, _, _⟩ _ _ _; first | refine r_mk (sz := 1) hG Y Y Y Y Y Y Y ?_)
      | refine r_q hG Y Y Y ?_))
    | (show AL _ _ _ _ _ _ _ _; first | refine Bi Y Y Y ?_ | (refine As ?_; first | show AW _ _ _ _ _ _ | show ∃ x', _ < _ ∧ _)) | (show AW _ _ (.seq _ _) _ _ _; refine Ai ?_; intro Q1) | (show AW _ _ (.region _ _ false) _ _ _; refine Ad ?_; intro O1) | (show AW _ _ (.ret) _ _ _; refine At ?_; try dsimp only [Ay, Ab, A6, Ah]) | fail)
  refine Ae rfl (r_onL0 rfl rfl rfl rfl rfl (arena_New 1) ?_)
  rintro u L' ⟨p, m, rfl, rfl⟩
  repeat' (first
    | ((show AL _ _ _ _ _ _ _ _; refine Ae Y ?_); (first
      | refine Ap hG Y Y ?_
      | refine A3 hG Y Y ?_
      | (show AOp _ _ ⟨_, .call ⟨.builtin .len, _, _⟩, _, _, _, _⟩ _ _ _; first | refine Br hG Y Y Y Y ?_ | refine By hG Y Y Y Y Y ?_)
      | (show AOp _ _ ⟨_, .binOp _ _ _ _ _, _, _, _, _⟩ _ _ _; first | refine Au hG Y Y Y Y Y (by omega) ?_ | refine Av hG Y Y Y Y Y (by omega) ?_ | (refine Ao hG Y Y Y Y Y (fun h => ?_) (fun h => ?_)) | refine Bw hG Y Y Y Y ?_)
      | refine Bc hG Y Y Y ?_
      | (show AOp _ _ ⟨_, .buildSlice _ _ _, _, _, _, _⟩ _ _ _; first | refine r_mk (sz := 1) hG Y Y Y Y Y Y Y ?_)
      | refine r_q hG Y Y Y ?_))
    | (show AL _ _ _ _ _ _ _ _; first | refine Bi Y Y Y ?_ | (refine As ?_; first | show AW _ _ _ _ _ _ | show ∃ x', _ < _ ∧ _)) | (show AW _ _ (.seq _ _) _ _ _; refine Ai ?_; intro Q1) | (show AW _ _ (.region _ _ false) _ _ _; refine Ad ?_; intro O1) | (show AW _ _ (.ret) _ _ _; refine At ?_; try dsimp only [Ay, Ab, A6, Ah]) | fail)
  refine Ae rfl (r_onL0 rfl rfl rfl rfl rfl ((arena_Put_new 1 [] [] (id := 5) (b := [1, 9]) (by decide) (by decide) (by decide) (by decide) (by decide) p 0 m).weak (wk3 (.refl _) (.refl _) (.own _ _ _))) ?_)
  rintro u L' ⟨ri, rfl, rfl⟩
  have h1 := And.intro ((arena_Put_no 1 bg1 bg2 (id := 5) (b := [2]) (by decide) (by decide) p ri m).weak (wk3 (.refl _) (.refl _) (.own 1 .full _))) (same_p 1 bg1 bg2 p ri m)
  have h2 := And.intro (arena_Get_is 1 bg1 bg2 (id := 5) (j := 0) (by decide) (by decide) (by decide) (by decide) (by decide) p ri m) (same_p 1 bg1 bg2 p ri m)
  have h3 := And.intro (arena_Size 1 bg1 bg2 (by decide) (by decide) p ri m) (same_p 1 bg1 bg2 p ri m)
  have h4 := And.intro (arena_IDs 1 bg1 bg2 (by decide) p ri m) (same_p 1 bg1 bg2 p ri m)
  have e5 : idsA bg1 = [5] := by unfold idsA; rw [srtL_isort]; decide
  have e6 : bytesA bg1 bg2 = [0, 0, 0, 0, 0, 0, 0, 5, 0, 2, 1, 9] := by unfold bytesA; rw [e5]; decide
  have h5 := And.intro (arena_Bytes 1 bg1 bg2 (by decide) (by decide) (by rw [e5]; intro id hid; obtain rfl : id = 5 := (by simpa using hid); exact ⟨0, by decide, by decide, by decide⟩) p ri m) (same_p 1 bg1 bg2 p ri m)
  rw [e5] at h4
  rw [e6] at h5
  have n1 : ([5] : List Nat).length = 1 := rfl
  have n2 : sizeA bg1 = 2 := by decide
  rw [n2] at h3
  have n3 : ((bg1.getD 0 default).bs).length = 2 := rfl
  have n4 : ([0, 0, 0, 0, 0, 0, 0, 5, 0, 2, 1, 9] : List UInt8).length = 12 := rfl
  repeat' (first
    | ((show AL _ _ _ _ _ _ _ _; refine Ae Y ?_); (first
      | refine Ap hG Y Y ?_
      | refine A3 hG Y Y ?_
      | (show AOp _ _ ⟨_, .call ⟨.builtin .len, _, _⟩, _, _, _, _⟩ _ _ _; first | refine Br hG Y Y Y Y ?_ | refine By hG Y Y Y Y Y ?_)
      | (show AOp _ _ ⟨_, .binOp _ _ _ _ _, _, _, _, _⟩ _ _ _; first | refine Au hG Y Y Y Y Y (by omega) ?_ | refine Av hG Y Y Y Y Y (by omega) ?_ | (refine Ao hG Y Y Y Y Y (fun h => ?_) (fun h => ?_)) | refine Bw hG Y Y Y Y ?_)
      | refine Bc hG Y Y Y ?_
      | (show AOp _ _ ⟨_, .buildSlice _ _ _, _, _, _, _⟩ _ _ _; first | refine r_mk (sz := 1) hG Y Y Y Y Y Y Y ?_)
      | (show AOp _ _ ⟨_, .call ⟨.value _, _, _⟩, _, _, _, _⟩ _ _ _; first | refine r_onS Y Y Y Y h1.1 h1.2 ?_ | refine r_onS Y Y Y Y h2.1 h2.2 ?_ | refine r_onS Y Y Y Y h3.1 h3.2 ?_ | refine r_onS Y Y Y Y h4.1 h4.2 ?_ | refine r_onS Y Y Y Y h5.1 h5.2 ?_ | fail)
      | refine r_q hG Y Y Y ?_))
    | (show AL _ _ _ _ _ _ _ _; first | refine Bi Y Y Y ?_ | (refine As ?_; first | show AW _ _ _ _ _ _ | show ∃ x', _ < _ ∧ _)) | (show AW _ _ (.seq _ _) _ _ _; refine Ai ?_; intro Q1) | (show AW _ _ (.region _ _ false) _ _ _; refine Ad ?_; intro O1) | (show AW _ _ (.ret) _ _ _; refine At ?_; try dsimp only [Ay, Ab, A6, Ah]) | fail)
  exact ret_pure (Bq rfl Bl) (.refl _) rfl
structure VeX (ls : List (List UInt8)) where
  i : Nat
  l : List SB
  at' : List (Nat × Int)
  ri : Nat
  hi : i ≤ ls.length
  hw : WFA l at'
  hl : l.length ≤ i
  hk : ∀ id, khas at' id = true → id < i
theorem names_old {l : List SB} {at' : List (Nat × Int)} (h : WFA l at') {id : Nat} (hk : khas at' id = false) (s : SB) (hs : s.taken = true ∧ s.id = id) : (namesOf ((flS l).set (fidx l) s)).length = (namesOf l).length + 1 := by
  have h2 := wfa_new h hk s hs
  have hp : (namesOf ((flS l).set (fidx l) s)).Perm (id :: namesOf l) := (List.perm_ext_iff_of_nodup (names_nodup h2) (List.nodup_cons.2 ⟨(fun h3 => by rw [names_mem h, hk] at h3; cases h3), names_nodup h⟩)).2 fun x => by
    rw [names_mem h2, khas_kset, List.mem_cons, names_mem h]
    simp
  rw [hp.length_eq]; rfl
set_option maxHeartbeats 2000000 in
theorem arenaVersions_pure {v : UInt8} {ls : List (List UInt8)} (hls : ls.length ≤ bigLen) (hlb : ∀ b ∈ ls, b.length ≤ bigLen) : Ts.Pure Try.prog 7 [bT v, .sl 1 .no (ls.map sT)] (.bool true) := by
  have h0 := arena_begun
  intro off
  by_cases h20 : 20 < ls.length
  · refine Bp (N := 63) (rs := [.tmp 4]) hG Try.func7 rfl rfl rfl rfl rfl ?_
    repeat' (first
    | ((show AL _ _ _ _ _ _ _ _; refine Ae Y ?_); (first
      | refine Ap hG Y Y ?_
      | refine A3 hG Y Y ?_
      | (show AOp _ _ ⟨_, .call ⟨.builtin .len, _, _⟩, _, _, _, _⟩ _ _ _; first | refine Br hG Y Y Y Y ?_ | refine By hG Y Y Y Y Y ?_)
      | (show AOp _ _ ⟨_, .binOp .add _ _ _ _, _, _, _, _⟩ _ _ _; first | refine Ac hG Y Y Y Y Y (by omega) ?_ | refine Ac (m := 1) hG Y Y Y Y Y (by omega) ?_ | refine Aa hG Y Y Y Y Y (by omega) ?_)
      | (show AOp _ _ ⟨_, .binOp _ _ _ _ _, _, _, _, _⟩ _ _ _; first | refine Au hG Y Y Y Y Y (by omega) ?_ | refine Av hG Y Y Y Y Y (by omega) ?_ | (refine Ao hG Y Y Y Y Y (fun h => ?_) (fun h => ?_)) | refine Bj hG Y Y Y ?_ | refine Bw hG Y Y Y Y ?_)
      | (show AOp _ _ ⟨_, .load _ _, _, _, _, _⟩ _ _ _; first | refine A5 0 sbT hG Y Y Y Y Y (by omega) Y ?_ | refine A4 0 sbT hG Y Y Y Y Y (by omega) Y ?_ | refine A5 1 sbT hG Y Y Y Y Y (by omega) Y ?_ | refine A4 1 sbT hG Y Y Y Y Y (by omega) Y ?_ | refine A5 2 sbT hG Y Y Y Y Y (by omega) Y ?_ | refine A4 2 sbT hG Y Y Y Y Y (by omega) Y ?_ | refine A5 3 sbT hG Y Y Y Y Y (by omega) Y ?_ | refine A4 3 sbT hG Y Y Y Y Y (by omega) Y ?_ | refine Ak (α := UInt16) 0 hG Y Y Y Y (by omega) Y ?_ | refine Ak (α := UInt16) 1 hG Y Y Y Y (by omega) Y ?_ | refine Ax hG Y Y Y ?_ | refine A8 0 hG Y Y Y Y ?_)
      | (show AOp _ _ ⟨_, .indexAddr _ _ _, _, _, _, _⟩ _ _ _; first | refine Bz (sz := 4) hG Y Y Y Y Y Y Y (by omega) ?_ | refine A2 hG Y Y Y Y Y Y Y (by omega) ?_ | refine r_idx0 hG Y Y Y Y Y Y Y ?_ | refine Aw hG Y Y Y Y Y Y Y (by omega) ?_ | refine Az hG Y Y Y Y Y Y Y (by omega) ?_ | refine A9 hG Y Y ?_)
      | (show AOp _ _ ⟨_, .convert _ _ _, _, _, _, _⟩ _ _ _; first | refine Cd hG Y Y Y Y Y (by omega) ?_ | refine r_cvw hG Y Y Y Y Y ?_)
      | refine Bc hG Y Y Y ?_
      | refine Bn hG Y Y Y ?_
      | (show AOp _ _ ⟨_, .call ⟨.value _, _, _⟩, _, _, _, _⟩ _ _ _; first | refine B0 Y Y Y Y Y (by first | (apply h0 <;> (first | assumption | omega | exact Bf _ _ | exact Bo _ | exact Bk _ _ | exact Bs _ | rfl | (simp; omega))) | fail) ?_ | fail)
      | refine r_q hG Y Y Y ?_))
    | (show AL _ _ _ _ _ _ _ _; first | refine Bi Y Y Y ?_ | (refine As ?_; first | show AW _ _ _ _ _ _ | show ∃ x', _ < _ ∧ _)) | (show AW _ _ (.seq _ _) _ _ _; refine Ai ?_; intro Q1) | (show AW _ _ (.region _ _ false) _ _ _; refine Ad ?_; intro O1) | (show AW _ _ (.cond _ _ _) _ _ _; first | refine Am Y ?_ | refine Al Y ?_ | refine Bd Y (fun h => ?_) (fun h => ?_)) | (show AW _ _ (.skip) _ _ _; refine Aj ?_; first | show AW _ _ _ _ _ _ | show ∃ x', _ < _ ∧ _) | (show AW _ _ (.block _ _) _ _ _; refine Af ?_; intro Q1) | (show AW _ _ (.exit _) _ _ _; refine Ar ?_; first | show AW _ _ _ _ _ _ | show ∃ x', _ < _ ∧ _) | (show AW _ _ (.ret) _ _ _; refine At ?_; try dsimp only [Ay, Ab, A6, Ah]) | fail)
    exact ret_pure (Bq rfl Bl) (.refl _) rfl
  refine Bp (N := 63) (rs := [.tmp 4]) hG Try.func7 rfl rfl rfl rfl rfl ?_
  repeat' (first
    | ((show AL _ _ _ _ _ _ _ _; refine Ae Y ?_); (first
      | refine Ap hG Y Y ?_
      | refine A3 hG Y Y ?_
      | (show AOp _ _ ⟨_, .call ⟨.builtin .len, _, _⟩, _, _, _, _⟩ _ _ _; first | refine Br hG Y Y Y Y ?_ | refine By hG Y Y Y Y Y ?_)
      | (show AOp _ _ ⟨_, .binOp .add _ _ _ _, _, _, _, _⟩ _ _ _; first | refine Ac hG Y Y Y Y Y (by omega) ?_ | refine Ac (m := 1) hG Y Y Y Y Y (by omega) ?_ | refine Aa hG Y Y Y Y Y (by omega) ?_)
      | (show AOp _ _ ⟨_, .binOp _ _ _ _ _, _, _, _, _⟩ _ _ _; first | refine Au hG Y Y Y Y Y (by omega) ?_ | refine Av hG Y Y Y Y Y (by omega) ?_ | (refine Ao hG Y Y Y Y Y (fun h => ?_) (fun h => ?_)) | refine Bj hG Y Y Y ?_ | refine Bw hG Y Y Y Y ?_)
      | (show AOp _ _ ⟨_, .load _ _, _, _, _, _⟩ _ _ _; first | refine A5 0 sbT hG Y Y Y Y Y (by omega) Y ?_ | refine A4 0 sbT hG Y Y Y Y Y (by omega) Y ?_ | refine A5 1 sbT hG Y Y Y Y Y (by omega) Y ?_ | refine A4 1 sbT hG Y Y Y Y Y (by omega) Y ?_ | refine A5 2 sbT hG Y Y Y Y Y (by omega) Y ?_ | refine A4 2 sbT hG Y Y Y Y Y (by omega) Y ?_ | refine A5 3 sbT hG Y Y Y Y Y (by omega) Y ?_ | refine A4 3 sbT hG Y Y Y Y Y (by omega) Y ?_ | refine Ak (α := UInt16) 0 hG Y Y Y Y (by omega) Y ?_ | refine Ak (α := UInt16) 1 hG Y Y Y Y (by omega) Y ?_ | refine Ax hG Y Y Y ?_ | refine A8 0 hG Y Y Y Y ?_)
      | (show AOp _ _ ⟨_, .indexAddr _ _ _, _, _, _, _⟩ _ _ _; first | refine Bz (sz := 4) hG Y Y Y Y Y Y Y (by omega) ?_ | refine A2 hG Y Y Y Y Y Y Y (by omega) ?_ | refine r_idx0 hG Y Y Y Y Y Y Y ?_ | refine Aw hG Y Y Y Y Y Y Y (by omega) ?_ | refine Az hG Y Y Y Y Y Y Y (by omega) ?_ | refine A9 hG Y Y ?_)
      | (show AOp _ _ ⟨_, .convert _ _ _, _, _, _, _⟩ _ _ _; first | refine Cd hG Y Y Y Y Y (by omega) ?_ | refine r_cvw hG Y Y Y Y Y ?_)
      | refine Bc hG Y Y Y ?_
      | refine Bn hG Y Y Y ?_
      | (show AOp _ _ ⟨_, .call ⟨.value _, _, _⟩, _, _, _, _⟩ _ _ _; first | refine B0 Y Y Y Y Y (by first | (apply h0 <;> (first | assumption | omega | exact Bf _ _ | exact Bo _ | exact Bk _ _ | exact Bs _ | rfl | (simp; omega))) | fail) ?_ | fail)
      | refine r_q hG Y Y Y ?_))
    | (show AL _ _ _ _ _ _ _ _; first | refine Bi Y Y Y ?_ | (refine As ?_; first | show AW _ _ _ _ _ _ | show ∃ x', _ < _ ∧ _)) | (show AW _ _ (.seq _ _) _ _ _; refine Ai ?_; intro Q1) | (show AW _ _ (.region _ _ false) _ _ _; refine Ad ?_; intro O1) | (show AW _ _ (.cond _ _ _) _ _ _; first | refine Am Y ?_ | refine Al Y ?_ | refine Bd Y (fun h => ?_) (fun h => ?_)) | (show AW _ _ (.skip) _ _ _; refine Aj ?_; first | show AW _ _ _ _ _ _ | show ∃ x', _ < _ ∧ _) | (show AW _ _ (.block _ _) _ _ _; refine Af ?_; intro Q1) | (show AW _ _ (.exit _) _ _ _; refine Ar ?_; first | show AW _ _ _ _ _ _ | show ∃ x', _ < _ ∧ _) | (show AW _ _ (.ret) _ _ _; refine At ?_; try dsimp only [Ay, Ab, A6, Ah]) | fail)
  refine Ae rfl (r_onL0 rfl rfl rfl rfl rfl (arena_New v) ?_)
  rintro u L' ⟨p, m, rfl, rfl⟩
  repeat' (first
    | ((show AL _ _ _ _ _ _ _ _; refine Ae Y ?_); (first
      | refine Ap hG Y Y ?_
      | refine A3 hG Y Y ?_
      | (show AOp _ _ ⟨_, .call ⟨.builtin .len, _, _⟩, _, _, _, _⟩ _ _ _; first | refine Br hG Y Y Y Y ?_ | refine By hG Y Y Y Y Y ?_)
      | (show AOp _ _ ⟨_, .binOp .add _ _ _ _, _, _, _, _⟩ _ _ _; first | refine Ac hG Y Y Y Y Y (by omega) ?_ | refine Ac (m := 1) hG Y Y Y Y Y (by omega) ?_ | refine Aa hG Y Y Y Y Y (by omega) ?_)
      | (show AOp _ _ ⟨_, .binOp _ _ _ _ _, _, _, _, _⟩ _ _ _; first | refine Au hG Y Y Y Y Y (by omega) ?_ | refine Av hG Y Y Y Y Y (by omega) ?_ | (refine Ao hG Y Y Y Y Y (fun h => ?_) (fun h => ?_)) | refine Bj hG Y Y Y ?_ | refine Bw hG Y Y Y Y ?_)
      | (show AOp _ _ ⟨_, .load _ _, _, _, _, _⟩ _ _ _; first | refine A5 0 sbT hG Y Y Y Y Y (by omega) Y ?_ | refine A4 0 sbT hG Y Y Y Y Y (by omega) Y ?_ | refine A5 1 sbT hG Y Y Y Y Y (by omega) Y ?_ | refine A4 1 sbT hG Y Y Y Y Y (by omega) Y ?_ | refine A5 2 sbT hG Y Y Y Y Y (by omega) Y ?_ | refine A4 2 sbT hG Y Y Y Y Y (by omega) Y ?_ | refine A5 3 sbT hG Y Y Y Y Y (by omega) Y ?_ | refine A4 3 sbT hG Y Y Y Y Y (by omega) Y ?_ | refine Ak (α := UInt16) 0 hG Y Y Y Y (by omega) Y ?_ | refine Ak (α := UInt16) 1 hG Y Y Y Y (by omega) Y ?_ | refine Ax hG Y Y Y ?_ | refine A8 0 hG Y Y Y Y ?_)
      | (show AOp _ _ ⟨_, .indexAddr _ _ _, _, _, _, _⟩ _ _ _; first | refine Bz (sz := 4) hG Y Y Y Y Y Y Y (by omega) ?_ | refine A2 hG Y Y Y Y Y Y Y (by omega) ?_ | refine r_idx0 hG Y Y Y Y Y Y Y ?_ | refine Aw hG Y Y Y Y Y Y Y (by omega) ?_ | refine Az hG Y Y Y Y Y Y Y (by omega) ?_ | refine A9 hG Y Y ?_)
      | (show AOp _ _ ⟨_, .convert _ _ _, _, _, _, _⟩ _ _ _; first | refine Cd hG Y Y Y Y Y (by omega) ?_ | refine r_cvw hG Y Y Y Y Y ?_)
      | refine Bc hG Y Y Y ?_
      | refine Bn hG Y Y Y ?_
      | refine r_q hG Y Y Y ?_))
    | (show AL _ _ _ _ _ _ _ _; first | refine Bi Y Y Y ?_ | (refine As ?_; first | show AW _ _ _ _ _ _ | show ∃ x', _ < _ ∧ _)) | (show AW _ _ (.seq _ _) _ _ _; refine Ai ?_; intro Q1) | (show AW _ _ (.region _ _ false) _ _ _; refine Ad ?_; intro O1) | (show AW _ _ (.cond _ _ _) _ _ _; first | refine Am Y ?_ | refine Al Y ?_ | refine Bd Y (fun h => ?_) (fun h => ?_)) | (show AW _ _ (.skip) _ _ _; refine Aj ?_; first | show AW _ _ _ _ _ _ | show ∃ x', _ < _ ∧ _) | (show AW _ _ (.block _ _) _ _ _; refine Af ?_; intro Q1) | (show AW _ _ (.exit _) _ _ _; refine Ar ?_; first | show AW _ _ _ _ _ _ | show ∃ x', _ < _ ∧ _) | (show AW _ _ (.ret) _ _ _; refine At ?_; try dsimp only [Ay, Ab, A6, Ah]) | fail)
  refine aw_loop (X := VeX ls) (fun x => [(0, bT v), (1, .sl 1 .no (ls.map sT)), (5, .ptr p 0), (6, .int .i64 ((namesOf x.l).length : Int)), (7, .int .i64 (x.i : Int))]) (fun x => ⟨arL v x.l x.at' p x.ri m, [], off, none⟩) (fun x => ls.length - x.i) ⟨0, [], [], 0, Nat.zero_le _, wfa_nil, Nat.zero_le _, fun id h => by simp [khas, kfind] at h⟩ (by repeat (first | exact .nil _ | refine .cons rfl ?_)) (.refl _) ?_
  rintro ⟨i, l, at', ri, hi, hw, hl, hk⟩
  dsimp only
  by_cases hil : i < ls.length
  · have hbl : (ls.getD i default).length ≤ bigLen := hlb _ (by simp [List.getD, hil])
    by_cases h100 : 100 < (ls.getD i default).length
    · repeat' (first
    | ((show AL _ _ _ _ _ _ _ _; refine Ae Y ?_); (first
      | refine Ap hG Y Y ?_
      | refine A3 hG Y Y ?_
      | (show AOp _ _ ⟨_, .call ⟨.builtin .len, _, _⟩, _, _, _, _⟩ _ _ _; first | refine Br hG Y Y Y Y ?_ | refine By hG Y Y Y Y Y ?_)
      | (show AOp _ _ ⟨_, .binOp .add _ _ _ _, _, _, _, _⟩ _ _ _; first | refine Ac hG Y Y Y Y Y (by omega) ?_ | refine Ac (m := 1) hG Y Y Y Y Y (by omega) ?_ | refine Aa hG Y Y Y Y Y (by omega) ?_)
      | (show AOp _ _ ⟨_, .binOp _ _ _ _ _, _, _, _, _⟩ _ _ _; first | refine Au hG Y Y Y Y Y (by omega) ?_ | refine Av hG Y Y Y Y Y (by omega) ?_ | (refine Ao hG Y Y Y Y Y (fun h => ?_) (fun h => ?_)) | refine Bj hG Y Y Y ?_ | refine Bw hG Y Y Y Y ?_)
      | (show AOp _ _ ⟨_, .load _ _, _, _, _, _⟩ _ _ _; first | refine A5 0 sbT hG Y Y Y Y Y (by omega) Y ?_ | refine A4 0 sbT hG Y Y Y Y Y (by omega) Y ?_ | refine A5 1 sbT hG Y Y Y Y Y (by omega) Y ?_ | refine A4 1 sbT hG Y Y Y Y Y (by omega) Y ?_ | refine A5 2 sbT hG Y Y Y Y Y (by omega) Y ?_ | refine A4 2 sbT hG Y Y Y Y Y (by omega) Y ?_ | refine A5 3 sbT hG Y Y Y Y Y (by omega) Y ?_ | refine A4 3 sbT hG Y Y Y Y Y (by omega) Y ?_ | refine Ak (α := UInt16) 0 hG Y Y Y Y (by omega) Y ?_ | refine Ak (α := UInt16) 1 hG Y Y Y Y (by omega) Y ?_ | refine Ax hG Y Y Y ?_ | refine A8 0 hG Y Y Y Y ?_)
      | (show AOp _ _ ⟨_, .indexAddr _ _ _, _, _, _, _⟩ _ _ _; first | refine Bz (sz := 4) hG Y Y Y Y Y Y Y (by omega) ?_ | refine A2 hG Y Y Y Y Y Y Y (by omega) ?_ | refine r_idx0 hG Y Y Y Y Y Y Y ?_ | refine Aw hG Y Y Y Y Y Y Y (by omega) ?_ | refine Az hG Y Y Y Y Y Y Y (by omega) ?_ | refine A9 hG Y Y ?_)
      | (show AOp _ _ ⟨_, .convert _ _ _, _, _, _, _⟩ _ _ _; first | refine Cd hG Y Y Y Y Y (by omega) ?_ | refine r_cvw hG Y Y Y Y Y ?_)
      | refine Bc hG Y Y Y ?_
      | refine Bn hG Y Y Y ?_
      | refine r_q hG Y Y Y ?_))
    | (show AL _ _ _ _ _ _ _ _; first | refine Bi Y Y Y ?_ | (refine As ?_; first | show AW _ _ _ _ _ _ | show ∃ x', _ < _ ∧ _)) | (show AW _ _ (.seq _ _) _ _ _; refine Ai ?_; intro Q1) | (show AW _ _ (.region _ _ false) _ _ _; refine Ad ?_; intro O1) | (show AW _ _ (.cond _ _ _) _ _ _; first | refine Am Y ?_ | refine Al Y ?_ | refine Bd Y (fun h => ?_) (fun h => ?_)) | (show AW _ _ (.skip) _ _ _; refine Aj ?_; first | show AW _ _ _ _ _ _ | show ∃ x', _ < _ ∧ _) | (show AW _ _ (.block _ _) _ _ _; refine Af ?_; intro Q1) | (show AW _ _ (.exit _) _ _ _; refine Ar ?_; first | show AW _ _ _ _ _ _ | show ∃ x', _ < _ ∧ _) | (show AW _ _ (.ret) _ _ _; refine At ?_; try dsimp only [Ay, Ab, A6, Ah]) | fail)
      try dsimp (config := { zetaDelta := true }) only [Ay, Ab, A6]
      exact ret_pure (Bq rfl Bl) (.refl _) rfl
    have hki : khas at' i = false := by
      cases e : khas at' i with
      | false => rfl
      | true => have := hk i e; omega
    by_cases hp : 0 < (ls.getD i default).length
    · by_cases hv : (((ls.getD i default).getD 0 default).toNat : Int) = ((v.toNat : Nat) : Int)
      · have hpb : putsB v (ls.getD i default) = true := by
          unfold putsB
          rw [decide_eq_true hp, Bool.true_and, decide_eq_true_eq]
          exact UInt8.toNat_inj.1 (by omega)
        have hP := arena_Put_new v l at' (id := i) (b := ls.getD i default) (by omega) (by omega) hpb hki (by omega) p ri m
        have hw2 := wfa_new hw hki (bump ((flS l).getD (fidx l) default) i (by omega) (ls.getD i default)) ⟨rfl, rfl⟩
        have hn2 := names_old hw hki (bump ((flS l).getD (fidx l) default) i (by omega) (ls.getD i default)) ⟨rfl, rfl⟩
        have hfl := (fidx_lt l).2
        repeat' (first
    | ((show AL _ _ _ _ _ _ _ _; refine Ae Y ?_); (first
      | refine Ap hG Y Y ?_
      | refine A3 hG Y Y ?_
      | (show AOp _ _ ⟨_, .call ⟨.builtin .len, _, _⟩, _, _, _, _⟩ _ _ _; first | refine Br hG Y Y Y Y ?_ | refine By hG Y Y Y Y Y ?_)
      | (show AOp _ _ ⟨_, .binOp .add _ _ _ _, _, _, _, _⟩ _ _ _; first | refine Ac hG Y Y Y Y Y (by omega) ?_ | refine Ac (m := 1) hG Y Y Y Y Y (by omega) ?_ | refine Aa hG Y Y Y Y Y (by omega) ?_)
      | (show AOp _ _ ⟨_, .binOp _ _ _ _ _, _, _, _, _⟩ _ _ _; first | refine Au hG Y Y Y Y Y (by omega) ?_ | refine Av hG Y Y Y Y Y (by omega) ?_ | (refine Ao hG Y Y Y Y Y (fun h => ?_) (fun h => ?_)) | refine Bj hG Y Y Y ?_ | refine Bw hG Y Y Y Y ?_)
      | (show AOp _ _ ⟨_, .load _ _, _, _, _, _⟩ _ _ _; first | refine A5 0 sbT hG Y Y Y Y Y (by omega) Y ?_ | refine A4 0 sbT hG Y Y Y Y Y (by omega) Y ?_ | refine A5 1 sbT hG Y Y Y Y Y (by omega) Y ?_ | refine A4 1 sbT hG Y Y Y Y Y (by omega) Y ?_ | refine A5 2 sbT hG Y Y Y Y Y (by omega) Y ?_ | refine A4 2 sbT hG Y Y Y Y Y (by omega) Y ?_ | refine A5 3 sbT hG Y Y Y Y Y (by omega) Y ?_ | refine A4 3 sbT hG Y Y Y Y Y (by omega) Y ?_ | refine Ak (α := UInt16) 0 hG Y Y Y Y (by omega) Y ?_ | refine Ak (α := UInt16) 1 hG Y Y Y Y (by omega) Y ?_ | refine Ax hG Y Y Y ?_ | refine A8 0 hG Y Y Y Y ?_)
      | (show AOp _ _ ⟨_, .indexAddr _ _ _, _, _, _, _⟩ _ _ _; first | refine Bz (sz := 4) hG Y Y Y Y Y Y Y (by omega) ?_ | refine A2 hG Y Y Y Y Y Y Y (by omega) ?_ | refine r_idx0 hG Y Y Y Y Y Y Y ?_ | refine Aw hG Y Y Y Y Y Y Y (by omega) ?_ | refine Az hG Y Y Y Y Y Y Y (by omega) ?_ | refine A9 hG Y Y ?_)
      | (show AOp _ _ ⟨_, .convert _ _ _, _, _, _, _⟩ _ _ _; first | refine Cd hG Y Y Y Y Y (by omega) ?_ | refine r_cvw hG Y Y Y Y Y ?_)
      | refine Bc hG Y Y Y ?_
      | refine Bn hG Y Y Y ?_
      | refine r_q hG Y Y Y ?_))
    | (show AL _ _ _ _ _ _ _ _; first | refine Bi Y Y Y ?_ | (refine As ?_; first | show AW _ _ _ _ _ _ | show ∃ x', _ < _ ∧ _)) | (show AW _ _ (.seq _ _) _ _ _; refine Ai ?_; intro Q1) | (show AW _ _ (.region _ _ false) _ _ _; refine Ad ?_; intro O1) | (show AW _ _ (.cond _ _ _) _ _ _; first | refine Am Y ?_ | refine Al Y ?_ | refine Bd Y (fun h => ?_) (fun h => ?_)) | (show AW _ _ (.skip) _ _ _; refine Aj ?_; first | show AW _ _ _ _ _ _ | show ∃ x', _ < _ ∧ _) | (show AW _ _ (.block _ _) _ _ _; refine Af ?_; intro Q1) | (show AW _ _ (.exit _) _ _ _; refine Ar ?_; first | show AW _ _ _ _ _ _ | show ∃ x', _ < _ ∧ _) | (show AW _ _ (.ret) _ _ _; refine At ?_; try dsimp only [Ay, Ab, A6, Ah]) | fail)
        refine Ae rfl (r_onL0 rfl rfl rfl rfl rfl hP ?_)
        rintro u L' ⟨ri', rfl, rfl⟩
        have hnl : (namesOf l).length ≤ 255 := by unfold namesOf; rw [List.length_map]; exact Nat.le_trans (List.length_filter_le _ _) (by omega)
        repeat' (first
    | ((show AL _ _ _ _ _ _ _ _; refine Ae Y ?_); (first
      | refine Ap hG Y Y ?_
      | refine A3 hG Y Y ?_
      | (show AOp _ _ ⟨_, .call ⟨.builtin .len, _, _⟩, _, _, _, _⟩ _ _ _; first | refine Br hG Y Y Y Y ?_ | refine By hG Y Y Y Y Y ?_)
      | (show AOp _ _ ⟨_, .binOp .add _ _ _ _, _, _, _, _⟩ _ _ _; first | refine Ac hG Y Y Y Y Y (by omega) ?_ | refine Ac (m := 1) hG Y Y Y Y Y (by omega) ?_ | refine Aa hG Y Y Y Y Y (by omega) ?_)
      | (show AOp _ _ ⟨_, .binOp _ _ _ _ _, _, _, _, _⟩ _ _ _; first | refine Au hG Y Y Y Y Y (by omega) ?_ | refine Av hG Y Y Y Y Y (by omega) ?_ | (refine Ao hG Y Y Y Y Y (fun h => ?_) (fun h => ?_)) | refine Bj hG Y Y Y ?_ | refine Bw hG Y Y Y Y ?_)
      | (show AOp _ _ ⟨_, .load _ _, _, _, _, _⟩ _ _ _; first | refine A5 0 sbT hG Y Y Y Y Y (by omega) Y ?_ | refine A4 0 sbT hG Y Y Y Y Y (by omega) Y ?_ | refine A5 1 sbT hG Y Y Y Y Y (by omega) Y ?_ | refine A4 1 sbT hG Y Y Y Y Y (by omega) Y ?_ | refine A5 2 sbT hG Y Y Y Y Y (by omega) Y ?_ | refine A4 2 sbT hG Y Y Y Y Y (by omega) Y ?_ | refine A5 3 sbT hG Y Y Y Y Y (by omega) Y ?_ | refine A4 3 sbT hG Y Y Y Y Y (by omega) Y ?_ | refine Ak (α := UInt16) 0 hG Y Y Y Y (by omega) Y ?_ | refine Ak (α := UInt16) 1 hG Y Y Y Y (by omega) Y ?_ | refine Ax hG Y Y Y ?_ | refine A8 0 hG Y Y Y Y ?_)
      | (show AOp _ _ ⟨_, .indexAddr _ _ _, _, _, _, _⟩ _ _ _; first | refine Bz (sz := 4) hG Y Y Y Y Y Y Y (by omega) ?_ | refine A2 hG Y Y Y Y Y Y Y (by omega) ?_ | refine r_idx0 hG Y Y Y Y Y Y Y ?_ | refine Aw hG Y Y Y Y Y Y Y (by omega) ?_ | refine Az hG Y Y Y Y Y Y Y (by omega) ?_ | refine A9 hG Y Y ?_)
      | (show AOp _ _ ⟨_, .convert _ _ _, _, _, _, _⟩ _ _ _; first | refine Cd hG Y Y Y Y Y (by omega) ?_ | refine r_cvw hG Y Y Y Y Y ?_)
      | refine Bc hG Y Y Y ?_
      | refine Bn hG Y Y Y ?_
      | refine r_q hG Y Y Y ?_))
    | (show AL _ _ _ _ _ _ _ _; first | refine Bi Y Y Y ?_ | (refine As ?_; first | show AW _ _ _ _ _ _ | show ∃ x', _ < _ ∧ _)) | (show AW _ _ (.seq _ _) _ _ _; refine Ai ?_; intro Q1) | (show AW _ _ (.region _ _ false) _ _ _; refine Ad ?_; intro O1) | (show AW _ _ (.cond _ _ _) _ _ _; first | refine Am Y ?_ | refine Al Y ?_ | refine Bd Y (fun h => ?_) (fun h => ?_)) | (show AW _ _ (.skip) _ _ _; refine Aj ?_; first | show AW _ _ _ _ _ _ | show ∃ x', _ < _ ∧ _) | (show AW _ _ (.block _ _) _ _ _; refine Af ?_; intro Q1) | (show AW _ _ (.exit _) _ _ _; refine Ar ?_; first | show AW _ _ _ _ _ _ | show ∃ x', _ < _ ∧ _) | (show AW _ _ (.ret) _ _ _; refine At ?_; try dsimp only [Ay, Ab, A6, Ah]) | fail)
        refine ⟨⟨i + 1, _, _, ri', by omega, hw2, by rw [List.length_set]; omega, fun id h => ?_⟩, by dsimp only; omega, (.cons rfl (.cons rfl (.cons rfl (.consW rfl (.int (by dsimp only; rw [hn2])) (.cons rfl (.nil _)))))), .refl _⟩
        rw [khas_kset, Bool.or_eq_true, decide_eq_true_eq] at h
        rcases h with h | h
        · omega
        · have := hk id h; omega
      · have hpb : putsB v (ls.getD i default) = false := by
          unfold putsB
          rw [decide_eq_true hp, Bool.true_and, decide_eq_false_iff_not]
          intro h; exact hv (by rw [h])
        have hP := And.intro (arena_Put_no v l at' (id := i) (b := ls.getD i default) (by omega) hpb p ri m) (same_p v l at' p ri m)
        repeat' (first
    | ((show AL _ _ _ _ _ _ _ _; refine Ae Y ?_); (first
      | refine Ap hG Y Y ?_
      | refine A3 hG Y Y ?_
      | (show AOp _ _ ⟨_, .call ⟨.builtin .len, _, _⟩, _, _, _, _⟩ _ _ _; first | refine Br hG Y Y Y Y ?_ | refine By hG Y Y Y Y Y ?_)
      | (show AOp _ _ ⟨_, .binOp .add _ _ _ _, _, _, _, _⟩ _ _ _; first | refine Ac hG Y Y Y Y Y (by omega) ?_ | refine Ac (m := 1) hG Y Y Y Y Y (by omega) ?_ | refine Aa hG Y Y Y Y Y (by omega) ?_)
      | (show AOp _ _ ⟨_, .binOp _ _ _ _ _, _, _, _, _⟩ _ _ _; first | refine Au hG Y Y Y Y Y (by omega) ?_ | refine Av hG Y Y Y Y Y (by omega) ?_ | (refine Ao hG Y Y Y Y Y (fun h => ?_) (fun h => ?_)) | refine Bj hG Y Y Y ?_ | refine Bw hG Y Y Y Y ?_)
      | (show AOp _ _ ⟨_, .load _ _, _, _, _, _⟩ _ _ _; first | refine A5 0 sbT hG Y Y Y Y Y (by omega) Y ?_ | refine A4 0 sbT hG Y Y Y Y Y (by omega) Y ?_ | refine A5 1 sbT hG Y Y Y Y Y (by omega) Y ?_ | refine A4 1 sbT hG Y Y Y Y Y (by omega) Y ?_ | refine A5 2 sbT hG Y Y Y Y Y (by omega) Y ?_ | refine A4 2 sbT hG Y Y Y Y Y (by omega) Y ?_ | refine A5 3 sbT hG Y Y Y Y Y (by omega) Y ?_ | refine A4 3 sbT hG Y Y Y Y Y (by omega) Y ?_ | refine Ak (α := UInt16) 0 hG Y Y Y Y (by omega) Y ?_ | refine Ak (α := UInt16) 1 hG Y Y Y Y (by omega) Y ?_ | refine Ax hG Y Y Y ?_ | refine A8 0 hG Y Y Y Y ?_)
      | (show AOp _ _ ⟨_, .indexAddr _ _ _, _, _, _, _⟩ _ _ _; first | refine Bz (sz := 4) hG Y Y Y Y Y Y Y (by omega) ?_ | refine A2 hG Y Y Y Y Y Y Y (by omega) ?_ | refine r_idx0 hG Y Y Y Y Y Y Y ?_ | refine Aw hG Y Y Y Y Y Y Y (by omega) ?_ | refine Az hG Y Y Y Y Y Y Y (by omega) ?_ | refine A9 hG Y Y ?_)
      | (show AOp _ _ ⟨_, .convert _ _ _, _, _, _, _⟩ _ _ _; first | refine Cd hG Y Y Y Y Y (by omega) ?_ | refine r_cvw hG Y Y Y Y Y ?_)
      | refine Bc hG Y Y Y ?_
      | refine Bn hG Y Y Y ?_
      | (show AOp _ _ ⟨_, .call ⟨.value _, _, _⟩, _, _, _, _⟩ _ _ _; first | refine r_onS Y Y Y Y hP.1 hP.2 ?_ | fail)
      | refine r_q hG Y Y Y ?_))
    | (show AL _ _ _ _ _ _ _ _; first | refine Bi Y Y Y ?_ | (refine As ?_; first | show AW _ _ _ _ _ _ | show ∃ x', _ < _ ∧ _)) | (show AW _ _ (.seq _ _) _ _ _; refine Ai ?_; intro Q1) | (show AW _ _ (.region _ _ false) _ _ _; refine Ad ?_; intro O1) | (show AW _ _ (.cond _ _ _) _ _ _; first | refine Am Y ?_ | refine Al Y ?_ | refine Bd Y (fun h => ?_) (fun h => ?_)) | (show AW _ _ (.skip) _ _ _; refine Aj ?_; first | show AW _ _ _ _ _ _ | show ∃ x', _ < _ ∧ _) | (show AW _ _ (.block _ _) _ _ _; refine Af ?_; intro Q1) | (show AW _ _ (.exit _) _ _ _; refine Ar ?_; first | show AW _ _ _ _ _ _ | show ∃ x', _ < _ ∧ _) | (show AW _ _ (.ret) _ _ _; refine At ?_; try dsimp only [Ay, Ab, A6, Ah]) | fail)
        exact ⟨⟨i + 1, l, at', ri, by omega, hw, by omega, fun id h => by have := hk id h; omega⟩, by dsimp only; omega, (by repeat (first | exact .nil _ | refine .cons rfl ?_)), .refl _⟩
    · have hpb : putsB v (ls.getD i default) = false := by
        unfold putsB
        rw [decide_eq_false hp, Bool.false_and]
      have hP := And.intro (arena_Put_no v l at' (id := i) (b := ls.getD i default) (by omega) hpb p ri m) (same_p v l at' p ri m)
      repeat' (first
    | ((show AL _ _ _ _ _ _ _ _; refine Ae Y ?_); (first
      | refine Ap hG Y Y ?_
      | refine A3 hG Y Y ?_
      | (show AOp _ _ ⟨_, .call ⟨.builtin .len, _, _⟩, _, _, _, _⟩ _ _ _; first | refine Br hG Y Y Y Y ?_ | refine By hG Y Y Y Y Y ?_)
      | (show AOp _ _ ⟨_, .binOp .add _ _ _ _, _, _, _, _⟩ _ _ _; first | refine Ac hG Y Y Y Y Y (by omega) ?_ | refine Ac (m := 1) hG Y Y Y Y Y (by omega) ?_ | refine Aa hG Y Y Y Y Y (by omega) ?_)
      | (show AOp _ _ ⟨_, .binOp _ _ _ _ _, _, _, _, _⟩ _ _ _; first | refine Au hG Y Y Y Y Y (by omega) ?_ | refine Av hG Y Y Y Y Y (by omega) ?_ | (refine Ao hG Y Y Y Y Y (fun h => ?_) (fun h => ?_)) | refine Bj hG Y Y Y ?_ | refine Bw hG Y Y Y Y ?_)
      | (show AOp _ _ ⟨_, .load _ _, _, _, _, _⟩ _ _ _; first | refine A5 0 sbT hG Y Y Y Y Y (by omega) Y ?_ | refine A4 0 sbT hG Y Y Y Y Y (by omega) Y ?_ | refine A5 1 sbT hG Y Y Y Y Y (by omega) Y ?_ | refine A4 1 sbT hG Y Y Y Y Y (by omega) Y ?_ | refine A5 2 sbT hG Y Y Y Y Y (by omega) Y ?_ | refine A4 2 sbT hG Y Y Y Y Y (by omega) Y ?_ | refine A5 3 sbT hG Y Y Y Y Y (by omega) Y ?_ | refine A4 3 sbT hG Y Y Y Y Y (by omega) Y ?_ | refine Ak (α := UInt16) 0 hG Y Y Y Y (by omega) Y ?_ | refine Ak (α := UInt16) 1 hG Y Y Y Y (by omega) Y ?_ | refine Ax hG Y Y Y ?_ | refine A8 0 hG Y Y Y Y ?_)
      | (show AOp _ _ ⟨_, .indexAddr _ _ _, _, _, _, _⟩ _ _ _; first | refine Bz (sz := 4) hG Y Y Y Y Y Y Y (by omega) ?_ | refine A2 hG Y Y Y Y Y Y Y (by omega) ?_ | refine r_idx0 hG Y Y Y Y Y Y Y ?_ | refine Aw hG Y Y Y Y Y Y Y (by omega) ?_ | refine Az hG Y Y Y Y Y Y Y (by omega) ?_ | refine A9 hG Y Y ?_)
      | (show AOp _ _ ⟨_, .convert _ _ _, _, _, _, _⟩ _ _ _; first | refine Cd hG Y Y Y Y Y (by omega) ?_ | refine r_cvw hG Y Y Y Y Y ?_)
      | refine Bc hG Y Y Y ?_
      | refine Bn hG Y Y Y ?_
      | (show AOp _ _ ⟨_, .call ⟨.value _, _, _⟩, _, _, _, _⟩ _ _ _; first | refine r_onS Y Y Y Y hP.1 hP.2 ?_ | fail)
      | refine r_q hG Y Y Y ?_))
    | (show AL _ _ _ _ _ _ _ _; first | refine Bi Y Y Y ?_ | (refine As ?_; first | show AW _ _ _ _ _ _ | show ∃ x', _ < _ ∧ _)) | (show AW _ _ (.seq _ _) _ _ _; refine Ai ?_; intro Q1) | (show AW _ _ (.region _ _ false) _ _ _; refine Ad ?_; intro O1) | (show AW _ _ (.cond _ _ _) _ _ _; first | refine Am Y ?_ | refine Al Y ?_ | refine Bd Y (fun h => ?_) (fun h => ?_)) | (show AW _ _ (.skip) _ _ _; refine Aj ?_; first | show AW _ _ _ _ _ _ | show ∃ x', _ < _ ∧ _) | (show AW _ _ (.block _ _) _ _ _; refine Af ?_; intro Q1) | (show AW _ _ (.exit _) _ _ _; refine Ar ?_; first | show AW _ _ _ _ _ _ | show ∃ x', _ < _ ∧ _) | (show AW _ _ (.ret) _ _ _; refine At ?_; try dsimp only [Ay, Ab, A6, Ah]) | fail)
      exact ⟨⟨i + 1, l, at', ri, by omega, hw, by omega, fun id h => by have := hk id h; omega⟩, by dsimp only; omega, (by repeat (first | exact .nil _ | refine .cons rfl ?_)), .refl _⟩
  · have h4 := And.intro (arena_IDs v l at' (by omega) p ri m) (same_p v l at' p ri m)
    have h5 : (idsA l).length = (namesOf l).length := srtL_len _
    repeat' (first
    | ((show AL _ _ _ _ _ _ _ _; refine Ae Y ?_); (first
      | refine Ap hG Y Y ?_
      | refine A3 hG Y Y ?_
      | (show AOp _ _ ⟨_, .call ⟨.builtin .len, _, _⟩, _, _, _, _⟩ _ _ _; first | refine Br hG Y Y Y Y ?_ | refine By hG Y Y Y Y Y ?_)
      | (show AOp _ _ ⟨_, .binOp .add _ _ _ _, _, _, _, _⟩ _ _ _; first | refine Ac hG Y Y Y Y Y (by omega) ?_ | refine Ac (m := 1) hG Y Y Y Y Y (by omega) ?_ | refine Aa hG Y Y Y Y Y (by omega) ?_)
      | (show AOp _ _ ⟨_, .binOp _ _ _ _ _, _, _, _, _⟩ _ _ _; first | refine Au hG Y Y Y Y Y (by omega) ?_ | refine Av hG Y Y Y Y Y (by omega) ?_ | (refine Ao hG Y Y Y Y Y (fun h => ?_) (fun h => ?_)) | refine Bj hG Y Y Y ?_ | refine Bw hG Y Y Y Y ?_)
      | (show AOp _ _ ⟨_, .load _ _, _, _, _, _⟩ _ _ _; first | refine A5 0 sbT hG Y Y Y Y Y (by omega) Y ?_ | refine A4 0 sbT hG Y Y Y Y Y (by omega) Y ?_ | refine A5 1 sbT hG Y Y Y Y Y (by omega) Y ?_ | refine A4 1 sbT hG Y Y Y Y Y (by omega) Y ?_ | refine A5 2 sbT hG Y Y Y Y Y (by omega) Y ?_ | refine A4 2 sbT hG Y Y Y Y Y (by omega) Y ?_ | refine A5 3 sbT hG Y Y Y Y Y (by omega) Y ?_ | refine A4 3 sbT hG Y Y Y Y Y (by omega) Y ?_ | refine Ak (α := UInt16) 0 hG Y Y Y Y (by omega) Y ?_ | refine Ak (α := UInt16) 1 hG Y Y Y Y (by omega) Y ?_ | refine Ax hG Y Y Y ?_ | refine A8 0 hG Y Y Y Y ?_)
      | (show AOp _ _ ⟨_, .indexAddr _ _ _, _, _, _, _⟩ _ _ _; first | refine Bz (sz := 4) hG Y Y Y Y Y Y Y (by omega) ?_ | refine A2 hG Y Y Y Y Y Y Y (by omega) ?_ | refine r_idx0 hG Y Y Y Y Y Y Y ?_ | refine Aw hG Y Y Y Y Y Y Y (by omega) ?_ | refine Az hG Y Y Y Y Y Y Y (by omega) ?_ | refine A9 hG Y Y ?_)
      | (show AOp _ _ ⟨_, .convert _ _ _, _, _, _, _⟩ _ _ _; first | refine Cd hG Y Y Y Y Y (by omega) ?_ | refine r_cvw hG Y Y Y Y Y ?_)
      | refine Bc hG Y Y Y ?_
      | refine Bn hG Y Y Y ?_
      | (show AOp _ _ ⟨_, .call ⟨.value _, _, _⟩, _, _, _, _⟩ _ _ _; first | refine r_onS Y Y Y Y h4.1 h4.2 ?_ | fail)
      | refine r_q hG Y Y Y ?_))
    | (show AL _ _ _ _ _ _ _ _; first | refine Bi Y Y Y ?_ | (refine As ?_; first | show AW _ _ _ _ _ _ | show ∃ x', _ < _ ∧ _)) | (show AW _ _ (.seq _ _) _ _ _; refine Ai ?_; intro Q1) | (show AW _ _ (.region _ _ false) _ _ _; refine Ad ?_; intro O1) | (show AW _ _ (.cond _ _ _) _ _ _; first | refine Am Y ?_ | refine Al Y ?_ | refine Bd Y (fun h => ?_) (fun h => ?_)) | (show AW _ _ (.skip) _ _ _; refine Aj ?_; first | show AW _ _ _ _ _ _ | show ∃ x', _ < _ ∧ _) | (show AW _ _ (.block _ _) _ _ _; refine Af ?_; intro Q1) | (show AW _ _ (.exit _) _ _ _; refine Ar ?_; first | show AW _ _ _ _ _ _ | show ∃ x', _ < _ ∧ _) | (show AW _ _ (.ret) _ _ _; refine At ?_; try dsimp only [Ay, Ab, A6, Ah]) | fail)
    exact ret_pure (Bq rfl Bl) (.refl _) rfl
theorem arenaVersions_law (_W : World) (n : Int) (wn : (Lit.int .u8 n).wf = true) (x : T) (tx : ArgTy G 6 32 x) : ACalls Try.prog 7 [.int .u8 n, x] σ0 (fun r _ => r = .bool true) := by
  obtain ⟨ls, rfl, hl, hb⟩ := argTy_letters (n := 3) tx rfl rfl rfl rfl rfl rfl rfl rfl
  have u := wf_u8 wn
  have e : T.int .u8 n = bT (UInt8.ofNat n.toNat) := by
    unfold bT
    congr 1
    have : (UInt8.ofNat n.toNat).toNat = n.toNat := by simp [UInt8.toNat_ofNat]; omega
    omega
  rw [e]
  exact (arenaVersions_pure hl hb (fun _ _ => False)).mono fun _ _ h => h.1
end Go.Proofs.Ythfgocinlbogeaa
