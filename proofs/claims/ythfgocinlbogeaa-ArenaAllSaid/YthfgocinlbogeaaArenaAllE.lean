/- Part of the proof of the law ArenaAll: the texts AD, WS, AE, AF, AG, TsJ, AH, AP, FA, TsY, FM, FE, AL, BA, DA, BB, DB, LA, DL. No conditions. -/
import Derived.Test.YthfgocinlbogeaaArenaAllD
set_option linter.unusedSimpArgs false
set_option linter.unusedVariables false
set_option maxHeartbeats 4000000
namespace Go.Proofs.Ythfgocinlbogeaa
open Go.Ts
set_option linter.unusedSimpArgs false
set_option linter.unusedVariables false
set_option linter.unnecessarySimpa false
attribute [local irreducible] Go.Ts.AW Go.Ts.AOps Go.Ts.AL Go.Ts.AOp Go.Ts.ACalls Go.Ts.DL Go.Ts.DQ0 Go.Ts.EL
def putsB (v : UInt8) (b : List UInt8) : Bool := decide (0 < b.length) && decide (b.getD 0 default = v)
theorem arena_Put_no (v : UInt8) (l : List SB) (at' : List (Nat × Int)) {id : Nat} {b : List UInt8} (hb : b.length ≤ 4294967296) (h : putsB v b = false) (p i m : Nat) : OnL Try.prog 32 [.ptr p 0, .int .u64 (id : Int), sT b] (arL v l at' p i m) (fun u L => u = .int .i64 1 ∧ L = arL v l at' p i m) := by
  unfold putsB at h
  intro off
  by_cases h0 : 0 < b.length
  · rw [decide_eq_true h0, Bool.true_and] at h
    have h1 : ¬ b.getD 0 default = v := of_decide_eq_false h
    have h2 : ¬ (((b.getD 0 default).toNat : Int) = ((v.toNat : Nat) : Int)) := fun e => h1 (UInt8.toNat_inj.1 (by omega))
    refine Af (N := 73) (rs := [.tmp 6]) hG Try.func32 rfl rfl rfl rfl rfl ?_
    repeat' (first | (show AL _ _ _ _ _ _ _ _; first | (refine Ac Y ?_; (first | (show AOp _ _ ⟨_, .indexAddr _ _ _, _, _, _, _⟩ _ _ _; refine Ak (sz := 4) hG Y Y Y Y Y Y Y (by omega) ?_) | (show AOp _ _ ⟨_, .load _ _, _, _, _, _⟩ _ _ _; first | refine Ab 0 sbT hG Y Y Y Y Y (by omega) Y ?_ | refine Aa 0 sbT hG Y Y Y Y Y (by omega) Y ?_ | refine Ab 1 sbT hG Y Y Y Y Y (by omega) Y ?_ | refine Aa 1 sbT hG Y Y Y Y Y (by omega) Y ?_ | refine Ab 2 sbT hG Y Y Y Y Y (by omega) Y ?_ | refine Aa 2 sbT hG Y Y Y Y Y (by omega) Y ?_ | refine Ab 3 sbT hG Y Y Y Y Y (by omega) Y ?_ | refine Aa 3 sbT hG Y Y Y Y Y (by omega) Y ?_))) | refine so2 ?_) | (show DL _ _ _ _ _ _ _; first | (refine' Ap Y Y (fun K kk => ?_) ?_; (try (show Go.Ts.T; rotate_left)); (first | (show AOp _ _ ⟨_, .indexAddr _ _ _, _, _, _, _⟩ _ _ _; refine Ak (sz := 4) hG Y Y Y Y Y Y Y (by omega) ?_) | (show AOp _ _ ⟨_, .load _ _, _, _, _, _⟩ _ _ _; first | refine Ab 0 sbT hG Y Y Y Y Y (by omega) Y ?_ | refine Aa 0 sbT hG Y Y Y Y Y (by omega) Y ?_ | refine Ab 1 sbT hG Y Y Y Y Y (by omega) Y ?_ | refine Aa 1 sbT hG Y Y Y Y Y (by omega) Y ?_ | refine Ab 2 sbT hG Y Y Y Y Y (by omega) Y ?_ | refine Aa 2 sbT hG Y Y Y Y Y (by omega) Y ?_ | refine Ab 3 sbT hG Y Y Y Y Y (by omega) Y ?_ | refine Aa 3 sbT hG Y Y Y Y Y (by omega) Y ?_)); exact kk) | refine do2 ?_) | (show AW _ _ _ _ _ _; first | (show AW _ _ (.region _ _ _) _ _ _; refine sc0 ?_; intro O1) | (refine sc1 ?_; try intro Q1)) | (show (_ → _) ∧ _; refine ⟨fun h => ?_, fun h => ?_⟩) | fail)
    exact Az (Ae rfl Ag) (.refl _) (.refl _) (.refl _) rfl ⟨rfl, rfl⟩
  · refine Af (N := 73) (rs := [.tmp 6]) hG Try.func32 rfl rfl rfl rfl rfl ?_
    repeat' (first | (show AL _ _ _ _ _ _ _ _; first | (refine Ac Y ?_; (first | (show AOp _ _ ⟨_, .indexAddr _ _ _, _, _, _, _⟩ _ _ _; refine Ak (sz := 4) hG Y Y Y Y Y Y Y (by omega) ?_) | (show AOp _ _ ⟨_, .load _ _, _, _, _, _⟩ _ _ _; first | refine Ab 0 sbT hG Y Y Y Y Y (by omega) Y ?_ | refine Aa 0 sbT hG Y Y Y Y Y (by omega) Y ?_ | refine Ab 1 sbT hG Y Y Y Y Y (by omega) Y ?_ | refine Aa 1 sbT hG Y Y Y Y Y (by omega) Y ?_ | refine Ab 2 sbT hG Y Y Y Y Y (by omega) Y ?_ | refine Aa 2 sbT hG Y Y Y Y Y (by omega) Y ?_ | refine Ab 3 sbT hG Y Y Y Y Y (by omega) Y ?_ | refine Aa 3 sbT hG Y Y Y Y Y (by omega) Y ?_))) | refine so2 ?_) | (show DL _ _ _ _ _ _ _; first | (refine' Ap Y Y (fun K kk => ?_) ?_; (try (show Go.Ts.T; rotate_left)); (first | (show AOp _ _ ⟨_, .indexAddr _ _ _, _, _, _, _⟩ _ _ _; refine Ak (sz := 4) hG Y Y Y Y Y Y Y (by omega) ?_) | (show AOp _ _ ⟨_, .load _ _, _, _, _, _⟩ _ _ _; first | refine Ab 0 sbT hG Y Y Y Y Y (by omega) Y ?_ | refine Aa 0 sbT hG Y Y Y Y Y (by omega) Y ?_ | refine Ab 1 sbT hG Y Y Y Y Y (by omega) Y ?_ | refine Aa 1 sbT hG Y Y Y Y Y (by omega) Y ?_ | refine Ab 2 sbT hG Y Y Y Y Y (by omega) Y ?_ | refine Aa 2 sbT hG Y Y Y Y Y (by omega) Y ?_ | refine Ab 3 sbT hG Y Y Y Y Y (by omega) Y ?_ | refine Aa 3 sbT hG Y Y Y Y Y (by omega) Y ?_)); exact kk) | refine do2 ?_) | (show AW _ _ _ _ _ _; first | (show AW _ _ (.region _ _ _) _ _ _; refine sc0 ?_; intro O1) | (refine sc1 ?_; try intro Q1)) | (show (_ → _) ∧ _; refine ⟨fun h => ?_, fun h => ?_⟩) | fail)
    exact Az (Ae rfl Ag) (.refl _) (.refl _) (.refl _) rfl ⟨rfl, rfl⟩
def bump (s : SB) (id : Nat) (hid : id < 18446744073709551616) (b : List UInt8) : SB := ⟨id, b, true, IntKind.i64.wrap (s.turn + 1), hid⟩
theorem slT_ne : ∀ {l : List SB} {i : Nat}, l ≠ [] → slT l i = .aref 4 i 0 l.length none
  | [], _, h => absurd rfl h
  | _ :: _, _, _ => rfl
theorem rowOf_ne : ∀ {l : List SB} {i : Nat}, l ≠ [] → rowOf l i = [(i, .cells (flat (l.map sbT)))]
  | [], _, h => absurd rfl h
  | _ :: _, _, _ => rfl
theorem freeI_lt : ∀ (l : List SB) (i : Nat), freeI l i < ((i + l.length : Nat) : Int)
  | [], i => by simp [freeI]; omega
  | s :: l, i => by
    rw [freeI]; split
    · have := freeI_lt l (i + 1)
      simp only [List.length_cons]; omega
    · simp only [List.length_cons]; omega
theorem fidx_lt (l : List SB) : fidx l < (flS l).length ∧ (flS l).length ≤ l.length + 1 := by
  have := freeI_lt l 0
  unfold fidx flS
  split <;> simp <;> omega
theorem arena_Put_old (v : UInt8) (l : List SB) (at' : List (Nat × Int)) {id j : Nat} {b : List UInt8} (hid : id < 18446744073709551616) (hb : b.length ≤ 4294967296) (h : putsB v b = true) (hk : khas at' id = true) (hj : klook at' id = ((j : Nat) : Int)) (hjl : j < l.length) (hl : l.length ≤ 1000000) (p i m : Nat) :
    OnL Try.prog 32 [.ptr p 0, .int .u64 (id : Int), sT b] (arL v l at' p i m) (fun u L => u = .int .i64 0 ∧ L = arL v (l.set j (bump (l.getD j default) id hid b)) at' p i m) := by
  unfold putsB at h
  rw [Bool.and_eq_true, decide_eq_true_eq, decide_eq_true_eq] at h
  obtain ⟨h0, h1⟩ := h
  have h2 : ((b.getD 0 default).toNat : Int) = ((v.toNat : Nat) : Int) := by rw [h1]
  have hc := clone_p hb
  cases l with
  | nil => simp at hjl
  | cons s l =>
    intro off
    refine Af (N := 73) (rs := [.tmp 6]) hG Try.func32 rfl rfl rfl rfl rfl ?_
    repeat' (first | (show AL _ _ _ _ _ _ _ _; (fail_if_success show AL _ _ _ _ _ (⟨_, .lookup _ _ _ _, _, _, _, _⟩ :: _) _ _); first | (refine Ac Y ?_; (first | (show AOp _ _ ⟨_, .indexAddr _ _ _, _, _, _, _⟩ _ _ _; refine Ak (sz := 4) hG Y Y Y Y Y Y Y (by omega) ?_) | (show AOp _ _ ⟨_, .load _ _, _, _, _, _⟩ _ _ _; first | refine Ab 0 sbT hG Y Y Y Y Y (by omega) Y ?_ | refine Aa 0 sbT hG Y Y Y Y Y (by omega) Y ?_ | refine Ab 1 sbT hG Y Y Y Y Y (by omega) Y ?_ | refine Aa 1 sbT hG Y Y Y Y Y (by omega) Y ?_ | refine Ab 2 sbT hG Y Y Y Y Y (by omega) Y ?_ | refine Aa 2 sbT hG Y Y Y Y Y (by omega) Y ?_ | refine Ab 3 sbT hG Y Y Y Y Y (by omega) Y ?_ | refine Aa 3 sbT hG Y Y Y Y Y (by omega) Y ?_))) | refine so2 ?_ | refine sp Y Y Y Y Y Y (by apply hc <;> exact sd) ?_) | (show DL _ _ _ _ _ _ _; first | (refine' Ap Y Y (fun K kk => ?_) ?_; (try (show Go.Ts.T; rotate_left)); (first | (show AOp _ _ ⟨_, .indexAddr _ _ _, _, _, _, _⟩ _ _ _; refine Ak (sz := 4) hG Y Y Y Y Y Y Y (by omega) ?_) | (show AOp _ _ ⟨_, .load _ _, _, _, _, _⟩ _ _ _; first | refine Ab 0 sbT hG Y Y Y Y Y (by omega) Y ?_ | refine Aa 0 sbT hG Y Y Y Y Y (by omega) Y ?_ | refine Ab 1 sbT hG Y Y Y Y Y (by omega) Y ?_ | refine Aa 1 sbT hG Y Y Y Y Y (by omega) Y ?_ | refine Ab 2 sbT hG Y Y Y Y Y (by omega) Y ?_ | refine Aa 2 sbT hG Y Y Y Y Y (by omega) Y ?_ | refine Ab 3 sbT hG Y Y Y Y Y (by omega) Y ?_ | refine Aa 3 sbT hG Y Y Y Y Y (by omega) Y ?_)); exact kk) | refine do2 ?_ | refine dp Y Y Y Y Y Y Y (by apply hc <;> exact sd) ?_) | (show AW _ _ _ _ _ _; first | (show AW _ _ (.region _ _ _) _ _ _; refine sc0 ?_; intro O1) | (refine sc1 ?_; try intro Q1)) | (show (_ → _) ∧ _; refine ⟨fun h => ?_, fun h => ?_⟩) | fail)
    · exact absurd h2 h
    refine Ac rfl (r_lookLo (n := 1) hj hk hG rfl rfl rfl rfl rfl rfl rfl rfl rfl rfl ?_)
    repeat' (first | (show AL _ _ _ _ _ _ _ _; first | (refine Ac Y ?_; (first | (show AOp _ _ ⟨_, .indexAddr _ _ _, _, _, _, _⟩ _ _ _; refine Ak (sz := 4) hG Y Y Y Y Y Y Y (by omega) ?_) | (show AOp _ _ ⟨_, .load _ _, _, _, _, _⟩ _ _ _; first | refine Ab 0 sbT hG Y Y Y Y Y (by omega) Y ?_ | refine Aa 0 sbT hG Y Y Y Y Y (by omega) Y ?_ | refine Ab 1 sbT hG Y Y Y Y Y (by omega) Y ?_ | refine Aa 1 sbT hG Y Y Y Y Y (by omega) Y ?_ | refine Ab 2 sbT hG Y Y Y Y Y (by omega) Y ?_ | refine Aa 2 sbT hG Y Y Y Y Y (by omega) Y ?_ | refine Ab 3 sbT hG Y Y Y Y Y (by omega) Y ?_ | refine Aa 3 sbT hG Y Y Y Y Y (by omega) Y ?_))) | refine so2 ?_ | refine sp Y Y Y Y Y Y (by apply hc <;> exact sd) ?_) | (show DL _ _ _ _ _ _ _; first | (refine' Ap Y Y (fun K kk => ?_) ?_; (try (show Go.Ts.T; rotate_left)); (first | (show AOp _ _ ⟨_, .indexAddr _ _ _, _, _, _, _⟩ _ _ _; refine Ak (sz := 4) hG Y Y Y Y Y Y Y (by omega) ?_) | (show AOp _ _ ⟨_, .load _ _, _, _, _, _⟩ _ _ _; first | refine Ab 0 sbT hG Y Y Y Y Y (by omega) Y ?_ | refine Aa 0 sbT hG Y Y Y Y Y (by omega) Y ?_ | refine Ab 1 sbT hG Y Y Y Y Y (by omega) Y ?_ | refine Aa 1 sbT hG Y Y Y Y Y (by omega) Y ?_ | refine Ab 2 sbT hG Y Y Y Y Y (by omega) Y ?_ | refine Aa 2 sbT hG Y Y Y Y Y (by omega) Y ?_ | refine Ab 3 sbT hG Y Y Y Y Y (by omega) Y ?_ | refine Aa 3 sbT hG Y Y Y Y Y (by omega) Y ?_)); exact kk) | refine do2 ?_ | refine dp Y Y Y Y Y Y Y (by apply hc <;> exact sd) ?_) | (show AW _ _ _ _ _ _; (fail_if_success show AW _ _ (.region 9 _ _) _ _ _); first | (show AW _ _ (.region _ _ _) _ _ _; refine sc0 ?_; intro O1) | (refine sc1 ?_; try intro Q1)) | (show (_ → _) ∧ _; refine ⟨fun h => ?_, fun h => ?_⟩) | fail)
    refine Bh (m := 18) [] (fun σ => ∃ m', σ = ⟨(p, .cells [bT v, .aref 4 i 0 (s :: l).length none, .map (some m)]) :: (m', .map (at'.map kvT)) :: [(i, .cells (flat ((s :: l).map sbT)))], [], off, none⟩) mix rfl (by repeat (first | exact Sp.zero _ | apply Sp.succ)) ?_; intro O1 F1 Z1 Q2
    repeat' (first
    | (refine' dq_cons Y Y Y (fun σ hσ K kk => ?_) ?_; (try (show Go.Ts.T; rotate_left)); (obtain ⟨R, rfl⟩ := hσ); (first
      | (show AOp _ _ ⟨_, .move _, _, _, _, _⟩ _ _ _; refine r_move hG Y Y ?_)
      | (show AOp _ _ ⟨_, .assign _, _, _, _, _⟩ _ _ _; refine r_asg hG Y Y ?_)
      | (show AOp _ _ ⟨_, .call ⟨.builtin .len, _, _⟩, _, _, _, _⟩ _ _ _; first | refine r_lenm hG Y Y Y Y ?_ | refine r_len hG Y Y Y Y Y ?_)
      | (show AOp _ _ ⟨_, .lookup _ _ _ _, _, _, _, _⟩ _ _ _; first | refine r_lookF hG Y Y Y Y Y Y Y Y Y ?_ | refine r_lookFo hG Y Y Y Y Y Y Y Y Y ?_ | refine r_lookL (n := 0) hG Y Y Y Y Y Y Y Y Y Y ?_ | refine r_lookL (n := 1) hG Y Y Y Y Y Y Y Y Y Y ?_)
      | (show AOp _ _ ⟨_, .mapUpdate _ _ _ _, _, _, _, _⟩ _ _ _; first | refine r_updL 0 hG Y Y Y Y Y Y Y Y ?_ | refine r_updL 1 hG Y Y Y Y Y Y Y Y ?_)
      | (show AOp _ _ ⟨_, .binOp .add _ _ _ _, _, _, _, _⟩ _ _ _; first | refine Ah hG Y Y Y Y Y (by omega) ?_ | refine Ah (m := 1) hG Y Y Y Y Y (by omega) ?_ | refine Ao hG Y Y Y Y Y (by omega) ?_)
      | (show AOp _ _ ⟨_, .binOp _ _ _ _ _, _, _, _, _⟩ _ _ _; first | refine r_cmpT hG Y Y Y Y Y (by omega) ?_ | refine r_cmpF hG Y Y Y Y Y (by omega) ?_ | refine r_bin' hG Y Y Y ?_ | refine r_binP hG Y Y Y Y ?_)
      | (show AOp _ _ ⟨_, .load _ _, _, _, _, _⟩ _ _ _; first | refine Ab 0 sbT hG Y Y Y Y Y (by omega) Y ?_ | refine Aa 0 sbT hG Y Y Y Y Y (by omega) Y ?_ | refine Ab 1 sbT hG Y Y Y Y Y (by omega) Y ?_ | refine Aa 1 sbT hG Y Y Y Y Y (by omega) Y ?_ | refine Ab 2 sbT hG Y Y Y Y Y (by omega) Y ?_ | refine Aa 2 sbT hG Y Y Y Y Y (by omega) Y ?_ | refine Ab 3 sbT hG Y Y Y Y Y (by omega) Y ?_ | refine Aa 3 sbT hG Y Y Y Y Y (by omega) Y ?_ | refine Ar (α := UInt16) 0 hG Y Y Y Y (by omega) Y ?_ | refine Ar (α := UInt16) 1 hG Y Y Y Y (by omega) Y ?_ | refine r_ldro hG Y Y Y ?_ | refine r_ld 0 hG Y Y Y Y ?_ | refine r_ld 1 hG Y Y Y Y ?_)
      | (show AOp _ _ ⟨_, .indexAddr _ _ _, _, _, _, _⟩ _ _ _; first | refine Ak (sz := 4) hG Y Y Y Y Y Y Y (by omega) ?_ | refine r_idxL hG Y Y Y Y Y Y Y (by omega) ?_ | refine r_idx0 hG Y Y Y Y Y Y Y ?_ | refine r_idxn hG Y Y Y Y Y Y Y (by omega) ?_ | refine r_idxm hG Y Y Y Y Y Y Y (by omega) ?_ | refine r_idx hG Y Y ?_)
      | (show AOp _ _ ⟨_, .pick _ _ _, _, _, _, _⟩ _ _ _; refine r_pick hG Y Y Y ?_)
      | (show AOp _ _ ⟨_, .unOp _ _ _, _, _, _, _⟩ _ _ _; refine r_not hG Y Y Y ?_)
      | (show AOp _ _ ⟨_, .build _ _, _, _, _, _⟩ _ _ _; refine r_build hG Y Y Y Y Y ?_)
      | (show AOp _ _ ⟨_, .store _ _ _, _, _, _, _⟩ _ _ _; first | refine At (α := UInt16) 0 hG Y Y Y hT_cells hT_sc Y Y (by first | omega | (simp only [Array.size_setIfInBounds]; omega)) ?_ | refine At (α := UInt16) 1 hG Y Y Y hT_cells hT_sc Y Y (by first | omega | (simp only [Array.size_setIfInBounds]; omega)) ?_ | refine r_st 0 hG Y Y Y Y Y Y Y ?_ | refine r_st 1 hG Y Y Y Y Y Y Y ?_)
      | (show AOp _ _ ⟨_, .call ⟨.value _, _, _⟩, _, _, _, _⟩ _ _ _; first | refine r_pure Y Y Y Y Y (by first | (apply hc <;> (first | assumption | omega | exact Bd _ _ | exact bytesT_s _ | exact catsT_map _ _ | exact catsT_c _ | rfl | (simp; omega))) | fail) ?_ | fail)
      | refine r_q hG Y Y Y ?_); exact kk)
    | refine dq_d Y Y Y (fun σ hσ K kt kf => by obtain ⟨R, rfl⟩ := hσ; exact r_cmp hG Y Y Y Y Y kt kf) (fun h => ?_) (fun h => ?_)
    | refine dq_d Y Y Y (fun σ hσ K kt kf => by obtain ⟨R, rfl⟩ := hσ; exact r_str hG Y Y Y Y kt kf) (fun h => ?_) (fun h => ?_)
    | refine dq_s Y Y Y Y ?_ | refine dq_e Y ?_ | (refine dq_nil ?_; show EL _ _ _ _ _ _ _ _ _) | refine el_s ⟨_, Y⟩ Y Y Y Y ?_
    | ((first | refine A1 ⟨_, Y⟩ Y Y Y (fun K ke => ?_) | refine Ba ⟨_, Y⟩ Y Y Y (fun K ke => ?_)); (first
      | (show AOp _ _ ⟨_, .move _, _, _, _, _⟩ _ _ _; refine r_move hG Y Y ?_)
      | (show AOp _ _ ⟨_, .assign _, _, _, _, _⟩ _ _ _; refine r_asg hG Y Y ?_)
      | (show AOp _ _ ⟨_, .call ⟨.builtin .len, _, _⟩, _, _, _, _⟩ _ _ _; first | refine r_lenm hG Y Y Y Y ?_ | refine r_len hG Y Y Y Y Y ?_)
      | (show AOp _ _ ⟨_, .lookup _ _ _ _, _, _, _, _⟩ _ _ _; first | refine r_lookF hG Y Y Y Y Y Y Y Y Y ?_ | refine r_lookFo hG Y Y Y Y Y Y Y Y Y ?_ | refine r_lookL (n := 0) hG Y Y Y Y Y Y Y Y Y Y ?_ | refine r_lookL (n := 1) hG Y Y Y Y Y Y Y Y Y Y ?_)
      | (show AOp _ _ ⟨_, .mapUpdate _ _ _ _, _, _, _, _⟩ _ _ _; first | refine r_updL 0 hG Y Y Y Y Y Y Y Y ?_ | refine r_updL 1 hG Y Y Y Y Y Y Y Y ?_)
      | (show AOp _ _ ⟨_, .binOp .add _ _ _ _, _, _, _, _⟩ _ _ _; first | refine Ah hG Y Y Y Y Y (by omega) ?_ | refine Ah (m := 1) hG Y Y Y Y Y (by omega) ?_ | refine Ao hG Y Y Y Y Y (by omega) ?_)
      | (show AOp _ _ ⟨_, .binOp _ _ _ _ _, _, _, _, _⟩ _ _ _; first | refine r_cmpT hG Y Y Y Y Y (by omega) ?_ | refine r_cmpF hG Y Y Y Y Y (by omega) ?_ | refine r_bin' hG Y Y Y ?_ | refine r_binP hG Y Y Y Y ?_)
      | (show AOp _ _ ⟨_, .load _ _, _, _, _, _⟩ _ _ _; first | refine Ab 0 sbT hG Y Y Y Y Y (by omega) Y ?_ | refine Aa 0 sbT hG Y Y Y Y Y (by omega) Y ?_ | refine Ab 1 sbT hG Y Y Y Y Y (by omega) Y ?_ | refine Aa 1 sbT hG Y Y Y Y Y (by omega) Y ?_ | refine Ab 2 sbT hG Y Y Y Y Y (by omega) Y ?_ | refine Aa 2 sbT hG Y Y Y Y Y (by omega) Y ?_ | refine Ab 3 sbT hG Y Y Y Y Y (by omega) Y ?_ | refine Aa 3 sbT hG Y Y Y Y Y (by omega) Y ?_ | refine Ar (α := UInt16) 0 hG Y Y Y Y (by omega) Y ?_ | refine Ar (α := UInt16) 1 hG Y Y Y Y (by omega) Y ?_ | refine r_ldro hG Y Y Y ?_ | refine r_ld 0 hG Y Y Y Y ?_ | refine r_ld 1 hG Y Y Y Y ?_)
      | (show AOp _ _ ⟨_, .indexAddr _ _ _, _, _, _, _⟩ _ _ _; first | refine Ak (sz := 4) hG Y Y Y Y Y Y Y (by omega) ?_ | refine r_idxL hG Y Y Y Y Y Y Y (by omega) ?_ | refine r_idx0 hG Y Y Y Y Y Y Y ?_ | refine r_idxn hG Y Y Y Y Y Y Y (by omega) ?_ | refine r_idxm hG Y Y Y Y Y Y Y (by omega) ?_ | refine r_idx hG Y Y ?_)
      | (show AOp _ _ ⟨_, .pick _ _ _, _, _, _, _⟩ _ _ _; refine r_pick hG Y Y Y ?_)
      | (show AOp _ _ ⟨_, .unOp _ _ _, _, _, _, _⟩ _ _ _; refine r_not hG Y Y Y ?_)
      | (show AOp _ _ ⟨_, .build _ _, _, _, _, _⟩ _ _ _; refine r_build hG Y Y Y Y Y ?_)
      | (show AOp _ _ ⟨_, .store _ _ _, _, _, _, _⟩ _ _ _; first | refine At (α := UInt16) 0 hG Y Y Y hT_cells hT_sc Y Y (by first | omega | (simp only [Array.size_setIfInBounds]; omega)) ?_ | refine At (α := UInt16) 1 hG Y Y Y hT_cells hT_sc Y Y (by first | omega | (simp only [Array.size_setIfInBounds]; omega)) ?_ | refine r_st 0 hG Y Y Y Y Y Y Y ?_ | refine r_st 1 hG Y Y Y Y Y Y Y ?_)
      | (show AOp _ _ ⟨_, .call ⟨.value _, _, _⟩, _, _, _, _⟩ _ _ _; first | refine r_pure Y Y Y Y Y (by first | (apply hc <;> (first | assumption | omega | exact Bd _ _ | exact bytesT_s _ | exact catsT_map _ _ | exact catsT_c _ | rfl | (simp; omega))) | fail) ?_ | fail)
      | refine r_q hG Y Y Y ?_); refine ke _ _ ?_)
    | (refine el_nil ⟨_, Y⟩ ?_; show AL _ _ _ _ _ _ _ _) | fail)
    repeat' (first | (show AL _ _ _ _ _ _ _ _; (fail_if_success show AL _ _ _ _ _ (⟨_, .store _ _ _, _, _, _, _⟩ :: _) _ _); first | (refine Ac Y ?_; (first | (show AOp _ _ ⟨_, .indexAddr _ _ _, _, _, _, _⟩ _ _ _; refine Ak (sz := 4) hG Y Y Y Y Y Y Y (by omega) ?_) | (show AOp _ _ ⟨_, .load _ _, _, _, _, _⟩ _ _ _; first | refine Ab 0 sbT hG Y Y Y Y Y (by omega) Y ?_ | refine Aa 0 sbT hG Y Y Y Y Y (by omega) Y ?_ | refine Ab 1 sbT hG Y Y Y Y Y (by omega) Y ?_ | refine Aa 1 sbT hG Y Y Y Y Y (by omega) Y ?_ | refine Ab 2 sbT hG Y Y Y Y Y (by omega) Y ?_ | refine Aa 2 sbT hG Y Y Y Y Y (by omega) Y ?_ | refine Ab 3 sbT hG Y Y Y Y Y (by omega) Y ?_ | refine Aa 3 sbT hG Y Y Y Y Y (by omega) Y ?_))) | refine so2 ?_) | (show DL _ _ _ _ _ _ _; first | (refine' Ap Y Y (fun K kk => ?_) ?_; (try (show Go.Ts.T; rotate_left)); (first | (show AOp _ _ ⟨_, .indexAddr _ _ _, _, _, _, _⟩ _ _ _; refine Ak (sz := 4) hG Y Y Y Y Y Y Y (by omega) ?_) | (show AOp _ _ ⟨_, .load _ _, _, _, _, _⟩ _ _ _; first | refine Ab 0 sbT hG Y Y Y Y Y (by omega) Y ?_ | refine Aa 0 sbT hG Y Y Y Y Y (by omega) Y ?_ | refine Ab 1 sbT hG Y Y Y Y Y (by omega) Y ?_ | refine Aa 1 sbT hG Y Y Y Y Y (by omega) Y ?_ | refine Ab 2 sbT hG Y Y Y Y Y (by omega) Y ?_ | refine Aa 2 sbT hG Y Y Y Y Y (by omega) Y ?_ | refine Ab 3 sbT hG Y Y Y Y Y (by omega) Y ?_ | refine Aa 3 sbT hG Y Y Y Y Y (by omega) Y ?_)); exact kk) | refine do2 ?_) | (show AW _ _ _ _ _ _; first | (show AW _ _ (.region _ _ _) _ _ _; refine sc0 ?_; intro O1) | (refine sc1 ?_; try intro Q1)) | (show (_ → _) ∧ _; refine ⟨fun h => ?_, fun h => ?_⟩) | fail)
    have e : arL v ((s :: l).set j (bump ((s :: l).getD j default) id hid b)) at' p i m = [(p, .cells [bT v, .aref 4 i 0 (s :: l).length none, .map (some m)]), (m, .map (at'.map kvT)), (i, .cells (flat (((s :: l).set j (bump ((s :: l).getD j default) id hid b)).map sbT)))] := by
      have hne : (s :: l).set j (bump ((s :: l).getD j default) id hid b) ≠ [] := by cases j <;> simp
      unfold arL
      rw [slT_ne hne, rowOf_ne hne, List.length_set]
    refine Ac rfl (r_stE 2 sbT (l := s :: l) (v := bump ((s :: l).getD j default) id hid b) (z := j) hG rfl rfl rfl rfl rfl rfl rfl hjl ?_)
    repeat' (first | (show AL _ _ _ _ _ _ _ _; first | (refine Ac Y ?_; (first | (show AOp _ _ ⟨_, .indexAddr _ _ _, _, _, _, _⟩ _ _ _; refine Ak (sz := 4) hG Y Y Y Y Y Y Y (by omega) ?_) | (show AOp _ _ ⟨_, .load _ _, _, _, _, _⟩ _ _ _; first | refine Ab 0 sbT hG Y Y Y Y Y (by omega) Y ?_ | refine Aa 0 sbT hG Y Y Y Y Y (by omega) Y ?_ | refine Ab 1 sbT hG Y Y Y Y Y (by omega) Y ?_ | refine Aa 1 sbT hG Y Y Y Y Y (by omega) Y ?_ | refine Ab 2 sbT hG Y Y Y Y Y (by omega) Y ?_ | refine Aa 2 sbT hG Y Y Y Y Y (by omega) Y ?_ | refine Ab 3 sbT hG Y Y Y Y Y (by omega) Y ?_ | refine Aa 3 sbT hG Y Y Y Y Y (by omega) Y ?_))) | refine so2 ?_) | (show DL _ _ _ _ _ _ _; first | (refine' Ap Y Y (fun K kk => ?_) ?_; (try (show Go.Ts.T; rotate_left)); (first | (show AOp _ _ ⟨_, .indexAddr _ _ _, _, _, _, _⟩ _ _ _; refine Ak (sz := 4) hG Y Y Y Y Y Y Y (by omega) ?_) | (show AOp _ _ ⟨_, .load _ _, _, _, _, _⟩ _ _ _; first | refine Ab 0 sbT hG Y Y Y Y Y (by omega) Y ?_ | refine Aa 0 sbT hG Y Y Y Y Y (by omega) Y ?_ | refine Ab 1 sbT hG Y Y Y Y Y (by omega) Y ?_ | refine Aa 1 sbT hG Y Y Y Y Y (by omega) Y ?_ | refine Ab 2 sbT hG Y Y Y Y Y (by omega) Y ?_ | refine Aa 2 sbT hG Y Y Y Y Y (by omega) Y ?_ | refine Ab 3 sbT hG Y Y Y Y Y (by omega) Y ?_ | refine Aa 3 sbT hG Y Y Y Y Y (by omega) Y ?_)); exact kk) | refine do2 ?_) | (show AW _ _ _ _ _ _; first | (show AW _ _ (.region _ _ _) _ _ _; refine sc0 ?_; intro O1) | (refine sc1 ?_; try intro Q1)) | (show (_ → _) ∧ _; refine ⟨fun h => ?_, fun h => ?_⟩) | fail)
    exact Az (Ae rfl Ag) (.refl _) (.refl _) (.refl _) rfl ⟨rfl, e.symm⟩
theorem arena_Put_new (v : UInt8) (l : List SB) (at' : List (Nat × Int)) {id : Nat} {b : List UInt8} (hid : id < 18446744073709551616) (hb : b.length ≤ 4294967296) (h : putsB v b = true) (hk : khas at' id = false) (hl : l.length ≤ 999999) (p i m : Nat) :
    OnL Try.prog 32 [.ptr p 0, .int .u64 (id : Int), sT b] (arL v l at' p i m) (fun u L => ∃ i', u = .int .i64 0 ∧ L = arL v ((flS l).set (fidx l) (bump ((flS l).getD (fidx l) default) id hid b)) (kset at' id (fidx l : Int)) p i' m) := by
  unfold putsB at h
  rw [Bool.and_eq_true, decide_eq_true_eq, decide_eq_true_eq] at h
  obtain ⟨h0, h1⟩ := h
  have h2 : ((b.getD 0 default).toNat : Int) = ((v.toNat : Nat) : Int) := by rw [h1]
  have hc := clone_p hb
  have hf := arena_free v l at' (by omega) p i m
  obtain ⟨hjl, hfl⟩ := fidx_lt l
  generalize flS l = fl at *
  generalize fidx l = j at *
  intro off
  refine Af (N := 73) (rs := [.tmp 6]) hG Try.func32 rfl rfl rfl rfl rfl ?_
  repeat' (first | (show AL _ _ _ _ _ _ _ _; (fail_if_success show AL _ _ _ _ _ (⟨_, .lookup _ _ _ _, _, _, _, _⟩ :: _) _ _); first | (refine Ac Y ?_; (first | (show AOp _ _ ⟨_, .indexAddr _ _ _, _, _, _, _⟩ _ _ _; refine Ak (sz := 4) hG Y Y Y Y Y Y Y (by omega) ?_) | (show AOp _ _ ⟨_, .load _ _, _, _, _, _⟩ _ _ _; first | refine Ab 0 sbT hG Y Y Y Y Y (by omega) Y ?_ | refine Aa 0 sbT hG Y Y Y Y Y (by omega) Y ?_ | refine Ab 1 sbT hG Y Y Y Y Y (by omega) Y ?_ | refine Aa 1 sbT hG Y Y Y Y Y (by omega) Y ?_ | refine Ab 2 sbT hG Y Y Y Y Y (by omega) Y ?_ | refine Aa 2 sbT hG Y Y Y Y Y (by omega) Y ?_ | refine Ab 3 sbT hG Y Y Y Y Y (by omega) Y ?_ | refine Aa 3 sbT hG Y Y Y Y Y (by omega) Y ?_))) | refine so2 ?_ | refine sp Y Y Y Y Y Y (by apply hc <;> exact sd) ?_) | (show DL _ _ _ _ _ _ _; first | (refine' Ap Y Y (fun K kk => ?_) ?_; (try (show Go.Ts.T; rotate_left)); (first | (show AOp _ _ ⟨_, .indexAddr _ _ _, _, _, _, _⟩ _ _ _; refine Ak (sz := 4) hG Y Y Y Y Y Y Y (by omega) ?_) | (show AOp _ _ ⟨_, .load _ _, _, _, _, _⟩ _ _ _; first | refine Ab 0 sbT hG Y Y Y Y Y (by omega) Y ?_ | refine Aa 0 sbT hG Y Y Y Y Y (by omega) Y ?_ | refine Ab 1 sbT hG Y Y Y Y Y (by omega) Y ?_ | refine Aa 1 sbT hG Y Y Y Y Y (by omega) Y ?_ | refine Ab 2 sbT hG Y Y Y Y Y (by omega) Y ?_ | refine Aa 2 sbT hG Y Y Y Y Y (by omega) Y ?_ | refine Ab 3 sbT hG Y Y Y Y Y (by omega) Y ?_ | refine Aa 3 sbT hG Y Y Y Y Y (by omega) Y ?_)); exact kk) | refine do2 ?_ | refine dp Y Y Y Y Y Y Y (by apply hc <;> exact sd) ?_) | (show AW _ _ _ _ _ _; first | (show AW _ _ (.region _ _ _) _ _ _; refine sc0 ?_; intro O1) | (refine sc1 ?_; try intro Q1)) | (show (_ → _) ∧ _; refine ⟨fun h => ?_, fun h => ?_⟩) | fail)
  · exact absurd h2 h
  refine Ac rfl (r_lookLo (n := 1) rfl hk hG rfl rfl rfl rfl rfl rfl rfl rfl rfl rfl ?_)
  repeat' (first | (show AL _ _ _ _ _ _ _ _; first | (refine Ac Y ?_; (first | (show AOp _ _ ⟨_, .indexAddr _ _ _, _, _, _, _⟩ _ _ _; refine Ak (sz := 4) hG Y Y Y Y Y Y Y (by omega) ?_) | (show AOp _ _ ⟨_, .load _ _, _, _, _, _⟩ _ _ _; first | refine Ab 0 sbT hG Y Y Y Y Y (by omega) Y ?_ | refine Aa 0 sbT hG Y Y Y Y Y (by omega) Y ?_ | refine Ab 1 sbT hG Y Y Y Y Y (by omega) Y ?_ | refine Aa 1 sbT hG Y Y Y Y Y (by omega) Y ?_ | refine Ab 2 sbT hG Y Y Y Y Y (by omega) Y ?_ | refine Aa 2 sbT hG Y Y Y Y Y (by omega) Y ?_ | refine Ab 3 sbT hG Y Y Y Y Y (by omega) Y ?_ | refine Aa 3 sbT hG Y Y Y Y Y (by omega) Y ?_))) | refine so2 ?_ | refine sp Y Y Y Y Y Y (by apply hc <;> exact sd) ?_) | (show DL _ _ _ _ _ _ _; first | (refine' Ap Y Y (fun K kk => ?_) ?_; (try (show Go.Ts.T; rotate_left)); (first | (show AOp _ _ ⟨_, .indexAddr _ _ _, _, _, _, _⟩ _ _ _; refine Ak (sz := 4) hG Y Y Y Y Y Y Y (by omega) ?_) | (show AOp _ _ ⟨_, .load _ _, _, _, _, _⟩ _ _ _; first | refine Ab 0 sbT hG Y Y Y Y Y (by omega) Y ?_ | refine Aa 0 sbT hG Y Y Y Y Y (by omega) Y ?_ | refine Ab 1 sbT hG Y Y Y Y Y (by omega) Y ?_ | refine Aa 1 sbT hG Y Y Y Y Y (by omega) Y ?_ | refine Ab 2 sbT hG Y Y Y Y Y (by omega) Y ?_ | refine Aa 2 sbT hG Y Y Y Y Y (by omega) Y ?_ | refine Ab 3 sbT hG Y Y Y Y Y (by omega) Y ?_ | refine Aa 3 sbT hG Y Y Y Y Y (by omega) Y ?_)); exact kk) | refine do2 ?_ | refine dp Y Y Y Y Y Y Y (by apply hc <;> exact sd) ?_) | (show AW _ _ _ _ _ _; first | (show AW _ _ (.region _ _ _) _ _ _; refine sc0 ?_; intro O1) | (refine sc1 ?_; try intro Q1)) | (show (_ → _) ∧ _; refine ⟨fun h => ?_, fun h => ?_⟩) | fail)
  refine Ac rfl (r_onL rfl rfl rfl rfl (Lf := []) (by rw [List.append_nil]) hf ?_)
  rintro u L' ⟨i', rfl, rfl⟩
  cases fl with
  | nil => simp at hjl
  | cons s l' =>
  repeat' (first | (show AL _ _ _ _ _ _ _ _; (fail_if_success show AL _ _ _ _ _ (⟨_, .mapUpdate _ _ _ _, _, _, _, _⟩ :: _) _ _); first | (refine Ac Y ?_; (first | (show AOp _ _ ⟨_, .indexAddr _ _ _, _, _, _, _⟩ _ _ _; refine Ak (sz := 4) hG Y Y Y Y Y Y Y (by omega) ?_) | (show AOp _ _ ⟨_, .load _ _, _, _, _, _⟩ _ _ _; first | refine Ab 0 sbT hG Y Y Y Y Y (by omega) Y ?_ | refine Aa 0 sbT hG Y Y Y Y Y (by omega) Y ?_ | refine Ab 1 sbT hG Y Y Y Y Y (by omega) Y ?_ | refine Aa 1 sbT hG Y Y Y Y Y (by omega) Y ?_ | refine Ab 2 sbT hG Y Y Y Y Y (by omega) Y ?_ | refine Aa 2 sbT hG Y Y Y Y Y (by omega) Y ?_ | refine Ab 3 sbT hG Y Y Y Y Y (by omega) Y ?_ | refine Aa 3 sbT hG Y Y Y Y Y (by omega) Y ?_))) | refine so2 ?_ | refine sp Y Y Y Y Y Y (by apply hc <;> exact sd) ?_) | (show DL _ _ _ _ _ _ _; first | (refine' Ap Y Y (fun K kk => ?_) ?_; (try (show Go.Ts.T; rotate_left)); (first | (show AOp _ _ ⟨_, .indexAddr _ _ _, _, _, _, _⟩ _ _ _; refine Ak (sz := 4) hG Y Y Y Y Y Y Y (by omega) ?_) | (show AOp _ _ ⟨_, .load _ _, _, _, _, _⟩ _ _ _; first | refine Ab 0 sbT hG Y Y Y Y Y (by omega) Y ?_ | refine Aa 0 sbT hG Y Y Y Y Y (by omega) Y ?_ | refine Ab 1 sbT hG Y Y Y Y Y (by omega) Y ?_ | refine Aa 1 sbT hG Y Y Y Y Y (by omega) Y ?_ | refine Ab 2 sbT hG Y Y Y Y Y (by omega) Y ?_ | refine Aa 2 sbT hG Y Y Y Y Y (by omega) Y ?_ | refine Ab 3 sbT hG Y Y Y Y Y (by omega) Y ?_ | refine Aa 3 sbT hG Y Y Y Y Y (by omega) Y ?_)); exact kk) | refine do2 ?_ | refine dp Y Y Y Y Y Y Y (by apply hc <;> exact sd) ?_) | (show AW _ _ _ _ _ _; first | (show AW _ _ (.region _ _ _) _ _ _; refine sc0 ?_; intro O1) | (refine sc1 ?_; try intro Q1)) | (show (_ → _) ∧ _; refine ⟨fun h => ?_, fun h => ?_⟩) | fail)
  refine Ac rfl ?_
  refine r_updL 1 hG rfl rfl rfl rfl rfl rfl rfl rfl ?_
  repeat' (first | (show AL _ _ _ _ _ _ _ _; first | (refine Ac Y ?_; (first | (show AOp _ _ ⟨_, .indexAddr _ _ _, _, _, _, _⟩ _ _ _; refine Ak (sz := 4) hG Y Y Y Y Y Y Y (by omega) ?_) | (show AOp _ _ ⟨_, .load _ _, _, _, _, _⟩ _ _ _; first | refine Ab 0 sbT hG Y Y Y Y Y (by omega) Y ?_ | refine Aa 0 sbT hG Y Y Y Y Y (by omega) Y ?_ | refine Ab 1 sbT hG Y Y Y Y Y (by omega) Y ?_ | refine Aa 1 sbT hG Y Y Y Y Y (by omega) Y ?_ | refine Ab 2 sbT hG Y Y Y Y Y (by omega) Y ?_ | refine Aa 2 sbT hG Y Y Y Y Y (by omega) Y ?_ | refine Ab 3 sbT hG Y Y Y Y Y (by omega) Y ?_ | refine Aa 3 sbT hG Y Y Y Y Y (by omega) Y ?_))) | refine so2 ?_ | refine sp Y Y Y Y Y Y (by apply hc <;> exact sd) ?_) | (show DL _ _ _ _ _ _ _; first | (refine' Ap Y Y (fun K kk => ?_) ?_; (try (show Go.Ts.T; rotate_left)); (first | (show AOp _ _ ⟨_, .indexAddr _ _ _, _, _, _, _⟩ _ _ _; refine Ak (sz := 4) hG Y Y Y Y Y Y Y (by omega) ?_) | (show AOp _ _ ⟨_, .load _ _, _, _, _, _⟩ _ _ _; first | refine Ab 0 sbT hG Y Y Y Y Y (by omega) Y ?_ | refine Aa 0 sbT hG Y Y Y Y Y (by omega) Y ?_ | refine Ab 1 sbT hG Y Y Y Y Y (by omega) Y ?_ | refine Aa 1 sbT hG Y Y Y Y Y (by omega) Y ?_ | refine Ab 2 sbT hG Y Y Y Y Y (by omega) Y ?_ | refine Aa 2 sbT hG Y Y Y Y Y (by omega) Y ?_ | refine Ab 3 sbT hG Y Y Y Y Y (by omega) Y ?_ | refine Aa 3 sbT hG Y Y Y Y Y (by omega) Y ?_)); exact kk) | refine do2 ?_ | refine dp Y Y Y Y Y Y Y (by apply hc <;> exact sd) ?_) | (show AW _ _ _ _ _ _; (fail_if_success show AW _ _ (.region 9 _ _) _ _ _); first | (show AW _ _ (.region _ _ _) _ _ _; refine sc0 ?_; intro O1) | (refine sc1 ?_; try intro Q1)) | (show (_ → _) ∧ _; refine ⟨fun h => ?_, fun h => ?_⟩) | fail)
  refine Bh (m := 18) [] (fun σ => ∃ m', σ = ⟨(p, .cells [bT v, .aref 4 i' 0 (s :: l').length none, .map (some m)]) :: (m', .map ((kset at' id (j : Int)).map kvT)) :: [(i', .cells (flat ((s :: l').map sbT)))], [], off, none⟩) mix rfl (by repeat (first | exact Sp.zero _ | apply Sp.succ)) ?_; intro O1 F1 Z1 Q2
  repeat' (first
    | (refine' dq_cons Y Y Y (fun σ hσ K kk => ?_) ?_; (try (show Go.Ts.T; rotate_left)); (obtain ⟨R, rfl⟩ := hσ); (first
      | (show AOp _ _ ⟨_, .move _, _, _, _, _⟩ _ _ _; refine r_move hG Y Y ?_)
      | (show AOp _ _ ⟨_, .assign _, _, _, _, _⟩ _ _ _; refine r_asg hG Y Y ?_)
      | (show AOp _ _ ⟨_, .call ⟨.builtin .len, _, _⟩, _, _, _, _⟩ _ _ _; first | refine r_lenm hG Y Y Y Y ?_ | refine r_len hG Y Y Y Y Y ?_)
      | (show AOp _ _ ⟨_, .lookup _ _ _ _, _, _, _, _⟩ _ _ _; first | refine r_lookF hG Y Y Y Y Y Y Y Y Y ?_ | refine r_lookFo hG Y Y Y Y Y Y Y Y Y ?_ | refine r_lookL (n := 0) hG Y Y Y Y Y Y Y Y Y Y ?_ | refine r_lookL (n := 1) hG Y Y Y Y Y Y Y Y Y Y ?_)
      | (show AOp _ _ ⟨_, .mapUpdate _ _ _ _, _, _, _, _⟩ _ _ _; first | refine r_updL 0 hG Y Y Y Y Y Y Y Y ?_ | refine r_updL 1 hG Y Y Y Y Y Y Y Y ?_)
      | (show AOp _ _ ⟨_, .binOp .add _ _ _ _, _, _, _, _⟩ _ _ _; first | refine Ah hG Y Y Y Y Y (by omega) ?_ | refine Ah (m := 1) hG Y Y Y Y Y (by omega) ?_ | refine Ao hG Y Y Y Y Y (by omega) ?_)
      | (show AOp _ _ ⟨_, .binOp _ _ _ _ _, _, _, _, _⟩ _ _ _; first | refine r_cmpT hG Y Y Y Y Y (by omega) ?_ | refine r_cmpF hG Y Y Y Y Y (by omega) ?_ | refine r_bin' hG Y Y Y ?_ | refine r_binP hG Y Y Y Y ?_)
      | (show AOp _ _ ⟨_, .load _ _, _, _, _, _⟩ _ _ _; first | refine Ab 0 sbT hG Y Y Y Y Y (by omega) Y ?_ | refine Aa 0 sbT hG Y Y Y Y Y (by omega) Y ?_ | refine Ab 1 sbT hG Y Y Y Y Y (by omega) Y ?_ | refine Aa 1 sbT hG Y Y Y Y Y (by omega) Y ?_ | refine Ab 2 sbT hG Y Y Y Y Y (by omega) Y ?_ | refine Aa 2 sbT hG Y Y Y Y Y (by omega) Y ?_ | refine Ab 3 sbT hG Y Y Y Y Y (by omega) Y ?_ | refine Aa 3 sbT hG Y Y Y Y Y (by omega) Y ?_ | refine Ar (α := UInt16) 0 hG Y Y Y Y (by omega) Y ?_ | refine Ar (α := UInt16) 1 hG Y Y Y Y (by omega) Y ?_ | refine r_ldro hG Y Y Y ?_ | refine r_ld 0 hG Y Y Y Y ?_ | refine r_ld 1 hG Y Y Y Y ?_)
      | (show AOp _ _ ⟨_, .indexAddr _ _ _, _, _, _, _⟩ _ _ _; first | refine Ak (sz := 4) hG Y Y Y Y Y Y Y (by omega) ?_ | refine r_idxL hG Y Y Y Y Y Y Y (by omega) ?_ | refine r_idx0 hG Y Y Y Y Y Y Y ?_ | refine r_idxn hG Y Y Y Y Y Y Y (by omega) ?_ | refine r_idxm hG Y Y Y Y Y Y Y (by omega) ?_ | refine r_idx hG Y Y ?_)
      | (show AOp _ _ ⟨_, .pick _ _ _, _, _, _, _⟩ _ _ _; refine r_pick hG Y Y Y ?_)
      | (show AOp _ _ ⟨_, .unOp _ _ _, _, _, _, _⟩ _ _ _; refine r_not hG Y Y Y ?_)
      | (show AOp _ _ ⟨_, .build _ _, _, _, _, _⟩ _ _ _; refine r_build hG Y Y Y Y Y ?_)
      | (show AOp _ _ ⟨_, .store _ _ _, _, _, _, _⟩ _ _ _; first | refine At (α := UInt16) 0 hG Y Y Y hT_cells hT_sc Y Y (by first | omega | (simp only [Array.size_setIfInBounds]; omega)) ?_ | refine At (α := UInt16) 1 hG Y Y Y hT_cells hT_sc Y Y (by first | omega | (simp only [Array.size_setIfInBounds]; omega)) ?_ | refine r_st 0 hG Y Y Y Y Y Y Y ?_ | refine r_st 1 hG Y Y Y Y Y Y Y ?_)
      | (show AOp _ _ ⟨_, .call ⟨.value _, _, _⟩, _, _, _, _⟩ _ _ _; first | refine r_pure Y Y Y Y Y (by first | (apply hc <;> (first | assumption | omega | exact Bd _ _ | exact bytesT_s _ | exact catsT_map _ _ | exact catsT_c _ | rfl | (simp; omega))) | fail) ?_ | fail)
      | refine r_q hG Y Y Y ?_); exact kk)
    | refine dq_d Y Y Y (fun σ hσ K kt kf => by obtain ⟨R, rfl⟩ := hσ; exact r_cmp hG Y Y Y Y Y kt kf) (fun h => ?_) (fun h => ?_)
    | refine dq_d Y Y Y (fun σ hσ K kt kf => by obtain ⟨R, rfl⟩ := hσ; exact r_str hG Y Y Y Y kt kf) (fun h => ?_) (fun h => ?_)
    | refine dq_s Y Y Y Y ?_ | refine dq_e Y ?_ | (refine dq_nil ?_; show EL _ _ _ _ _ _ _ _ _) | refine el_s ⟨_, Y⟩ Y Y Y Y ?_
    | ((first | refine A1 ⟨_, Y⟩ Y Y Y (fun K ke => ?_) | refine Ba ⟨_, Y⟩ Y Y Y (fun K ke => ?_)); (first
      | (show AOp _ _ ⟨_, .move _, _, _, _, _⟩ _ _ _; refine r_move hG Y Y ?_)
      | (show AOp _ _ ⟨_, .assign _, _, _, _, _⟩ _ _ _; refine r_asg hG Y Y ?_)
      | (show AOp _ _ ⟨_, .call ⟨.builtin .len, _, _⟩, _, _, _, _⟩ _ _ _; first | refine r_lenm hG Y Y Y Y ?_ | refine r_len hG Y Y Y Y Y ?_)
      | (show AOp _ _ ⟨_, .lookup _ _ _ _, _, _, _, _⟩ _ _ _; first | refine r_lookF hG Y Y Y Y Y Y Y Y Y ?_ | refine r_lookFo hG Y Y Y Y Y Y Y Y Y ?_ | refine r_lookL (n := 0) hG Y Y Y Y Y Y Y Y Y Y ?_ | refine r_lookL (n := 1) hG Y Y Y Y Y Y Y Y Y Y ?_)
      | (show AOp _ _ ⟨_, .mapUpdate _ _ _ _, _, _, _, _⟩ _ _ _; first | refine r_updL 0 hG Y Y Y Y Y Y Y Y ?_ | refine r_updL 1 hG Y Y Y Y Y Y Y Y ?_)
      | (show AOp _ _ ⟨_, .binOp .add _ _ _ _, _, _, _, _⟩ _ _ _; first | refine Ah hG Y Y Y Y Y (by omega) ?_ | refine Ah (m := 1) hG Y Y Y Y Y (by omega) ?_ | refine Ao hG Y Y Y Y Y (by omega) ?_)
      | (show AOp _ _ ⟨_, .binOp _ _ _ _ _, _, _, _, _⟩ _ _ _; first | refine r_cmpT hG Y Y Y Y Y (by omega) ?_ | refine r_cmpF hG Y Y Y Y Y (by omega) ?_ | refine r_bin' hG Y Y Y ?_ | refine r_binP hG Y Y Y Y ?_)
      | (show AOp _ _ ⟨_, .load _ _, _, _, _, _⟩ _ _ _; first | refine Ab 0 sbT hG Y Y Y Y Y (by omega) Y ?_ | refine Aa 0 sbT hG Y Y Y Y Y (by omega) Y ?_ | refine Ab 1 sbT hG Y Y Y Y Y (by omega) Y ?_ | refine Aa 1 sbT hG Y Y Y Y Y (by omega) Y ?_ | refine Ab 2 sbT hG Y Y Y Y Y (by omega) Y ?_ | refine Aa 2 sbT hG Y Y Y Y Y (by omega) Y ?_ | refine Ab 3 sbT hG Y Y Y Y Y (by omega) Y ?_ | refine Aa 3 sbT hG Y Y Y Y Y (by omega) Y ?_ | refine Ar (α := UInt16) 0 hG Y Y Y Y (by omega) Y ?_ | refine Ar (α := UInt16) 1 hG Y Y Y Y (by omega) Y ?_ | refine r_ldro hG Y Y Y ?_ | refine r_ld 0 hG Y Y Y Y ?_ | refine r_ld 1 hG Y Y Y Y ?_)
      | (show AOp _ _ ⟨_, .indexAddr _ _ _, _, _, _, _⟩ _ _ _; first | refine Ak (sz := 4) hG Y Y Y Y Y Y Y (by omega) ?_ | refine r_idxL hG Y Y Y Y Y Y Y (by omega) ?_ | refine r_idx0 hG Y Y Y Y Y Y Y ?_ | refine r_idxn hG Y Y Y Y Y Y Y (by omega) ?_ | refine r_idxm hG Y Y Y Y Y Y Y (by omega) ?_ | refine r_idx hG Y Y ?_)
      | (show AOp _ _ ⟨_, .pick _ _ _, _, _, _, _⟩ _ _ _; refine r_pick hG Y Y Y ?_)
      | (show AOp _ _ ⟨_, .unOp _ _ _, _, _, _, _⟩ _ _ _; refine r_not hG Y Y Y ?_)
      | (show AOp _ _ ⟨_, .build _ _, _, _, _, _⟩ _ _ _; refine r_build hG Y Y Y Y Y ?_)
      | (show AOp _ _ ⟨_, .store _ _ _, _, _, _, _⟩ _ _ _; first | refine At (α := UInt16) 0 hG Y Y Y hT_cells hT_sc Y Y (by first | omega | (simp only [Array.size_setIfInBounds]; omega)) ?_ | refine At (α := UInt16) 1 hG Y Y Y hT_cells hT_sc Y Y (by first | omega | (simp only [Array.size_setIfInBounds]; omega)) ?_ | refine r_st 0 hG Y Y Y Y Y Y Y ?_ | refine r_st 1 hG Y Y Y Y Y Y Y ?_)
      | (show AOp _ _ ⟨_, .call ⟨.value _, _, _⟩, _, _, _, _⟩ _ _ _; first | refine r_pure Y Y Y Y Y (by first | (apply hc <;> (first | assumption | omega | exact Bd _ _ | exact bytesT_s _ | exact catsT_map _ _ | exact catsT_c _ | rfl | (simp; omega))) | fail) ?_ | fail)
      | refine r_q hG Y Y Y ?_); refine ke _ _ ?_)
    | (refine el_nil ⟨_, Y⟩ ?_; show AL _ _ _ _ _ _ _ _) | fail)
  repeat' (first | (show AL _ _ _ _ _ _ _ _; (fail_if_success show AL _ _ _ _ _ (⟨_, .store _ _ _, _, _, _, _⟩ :: _) _ _); first | (refine Ac Y ?_; (first | (show AOp _ _ ⟨_, .indexAddr _ _ _, _, _, _, _⟩ _ _ _; refine Ak (sz := 4) hG Y Y Y Y Y Y Y (by omega) ?_) | (show AOp _ _ ⟨_, .load _ _, _, _, _, _⟩ _ _ _; first | refine Ab 0 sbT hG Y Y Y Y Y (by omega) Y ?_ | refine Aa 0 sbT hG Y Y Y Y Y (by omega) Y ?_ | refine Ab 1 sbT hG Y Y Y Y Y (by omega) Y ?_ | refine Aa 1 sbT hG Y Y Y Y Y (by omega) Y ?_ | refine Ab 2 sbT hG Y Y Y Y Y (by omega) Y ?_ | refine Aa 2 sbT hG Y Y Y Y Y (by omega) Y ?_ | refine Ab 3 sbT hG Y Y Y Y Y (by omega) Y ?_ | refine Aa 3 sbT hG Y Y Y Y Y (by omega) Y ?_))) | refine so2 ?_) | (show DL _ _ _ _ _ _ _; first | (refine' Ap Y Y (fun K kk => ?_) ?_; (try (show Go.Ts.T; rotate_left)); (first | (show AOp _ _ ⟨_, .indexAddr _ _ _, _, _, _, _⟩ _ _ _; refine Ak (sz := 4) hG Y Y Y Y Y Y Y (by omega) ?_) | (show AOp _ _ ⟨_, .load _ _, _, _, _, _⟩ _ _ _; first | refine Ab 0 sbT hG Y Y Y Y Y (by omega) Y ?_ | refine Aa 0 sbT hG Y Y Y Y Y (by omega) Y ?_ | refine Ab 1 sbT hG Y Y Y Y Y (by omega) Y ?_ | refine Aa 1 sbT hG Y Y Y Y Y (by omega) Y ?_ | refine Ab 2 sbT hG Y Y Y Y Y (by omega) Y ?_ | refine Aa 2 sbT hG Y Y Y Y Y (by omega) Y ?_ | refine Ab 3 sbT hG Y Y Y Y Y (by omega) Y ?_ | refine Aa 3 sbT hG Y Y Y Y Y (by omega) Y ?_)); exact kk) | refine do2 ?_) | (show AW _ _ _ _ _ _; first | (show AW _ _ (.region _ _ _) _ _ _; refine sc0 ?_; intro O1) | (refine sc1 ?_; try intro Q1)) | (show (_ → _) ∧ _; refine ⟨fun h => ?_, fun h => ?_⟩) | fail)
  have e : arL v ((s :: l').set j (bump ((s :: l').getD j default) id hid b)) (kset at' id (j : Int)) p i' m = [(p, .cells [bT v, .aref 4 i' 0 (s :: l').length none, .map (some m)]), (m, .map ((kset at' id (j : Int)).map kvT)), (i', .cells (flat (((s :: l').set j (bump ((s :: l').getD j default) id hid b)).map sbT)))] := by
    have hne : (s :: l').set j (bump ((s :: l').getD j default) id hid b) ≠ [] := by cases j <;> simp
    unfold arL
    rw [slT_ne hne, rowOf_ne hne, List.length_set]
  refine Ac rfl (r_stE 2 sbT (l := s :: l') (v := bump ((s :: l').getD j default) id hid b) (z := j) hG rfl rfl rfl rfl rfl rfl rfl hjl ?_)
  repeat' (first | (show AL _ _ _ _ _ _ _ _; first | (refine Ac Y ?_; (first | (show AOp _ _ ⟨_, .indexAddr _ _ _, _, _, _, _⟩ _ _ _; refine Ak (sz := 4) hG Y Y Y Y Y Y Y (by omega) ?_) | (show AOp _ _ ⟨_, .load _ _, _, _, _, _⟩ _ _ _; first | refine Ab 0 sbT hG Y Y Y Y Y (by omega) Y ?_ | refine Aa 0 sbT hG Y Y Y Y Y (by omega) Y ?_ | refine Ab 1 sbT hG Y Y Y Y Y (by omega) Y ?_ | refine Aa 1 sbT hG Y Y Y Y Y (by omega) Y ?_ | refine Ab 2 sbT hG Y Y Y Y Y (by omega) Y ?_ | refine Aa 2 sbT hG Y Y Y Y Y (by omega) Y ?_ | refine Ab 3 sbT hG Y Y Y Y Y (by omega) Y ?_ | refine Aa 3 sbT hG Y Y Y Y Y (by omega) Y ?_))) | refine so2 ?_) | (show DL _ _ _ _ _ _ _; first | (refine' Ap Y Y (fun K kk => ?_) ?_; (try (show Go.Ts.T; rotate_left)); (first | (show AOp _ _ ⟨_, .indexAddr _ _ _, _, _, _, _⟩ _ _ _; refine Ak (sz := 4) hG Y Y Y Y Y Y Y (by omega) ?_) | (show AOp _ _ ⟨_, .load _ _, _, _, _, _⟩ _ _ _; first | refine Ab 0 sbT hG Y Y Y Y Y (by omega) Y ?_ | refine Aa 0 sbT hG Y Y Y Y Y (by omega) Y ?_ | refine Ab 1 sbT hG Y Y Y Y Y (by omega) Y ?_ | refine Aa 1 sbT hG Y Y Y Y Y (by omega) Y ?_ | refine Ab 2 sbT hG Y Y Y Y Y (by omega) Y ?_ | refine Aa 2 sbT hG Y Y Y Y Y (by omega) Y ?_ | refine Ab 3 sbT hG Y Y Y Y Y (by omega) Y ?_ | refine Aa 3 sbT hG Y Y Y Y Y (by omega) Y ?_)); exact kk) | refine do2 ?_) | (show AW _ _ _ _ _ _; first | (show AW _ _ (.region _ _ _) _ _ _; refine sc0 ?_; intro O1) | (refine sc1 ?_; try intro Q1)) | (show (_ → _) ∧ _; refine ⟨fun h => ?_, fun h => ?_⟩) | fail)
  exact Az (Ae rfl Ag) (.refl _) (.refl _) (.refl _) rfl ⟨i', rfl, e.symm⟩
end Go.Proofs.Ythfgocinlbogeaa
set_option maxHeartbeats 4000000
namespace Go.Ts
theorem ret_pureE {G : Nat → Option TI} {σ : St} {a : Env} {rs : List ResultVar} {ts : List T} {r : T} (h : ResRs G a σ rs ts) (hw : Wk (tup1 ts) r) (hnx : σ.nx = none) : retA G rs (fun u σ' => u = r ∧ σ' = ⟨[], [], σ.off, none⟩) .normal a σ := Bj h hw hnx
end Go.Ts
namespace Go.Proofs.Ythfgocinlbogeaa
open Go.Ts
set_option linter.unusedSimpArgs false
set_option linter.unusedVariables false
set_option linter.unnecessarySimpa false
attribute [local irreducible] Go.Ts.AW Go.Ts.AOps Go.Ts.AL Go.Ts.AOp Go.Ts.ACalls Go.Ts.DL Go.Ts.DQ0 Go.Ts.EL
abbrev n0T : T := .sl 1 .no []
theorem ins0 : Ts.Pure Try.prog 103 [n0T, .int .i64 0, .int .i64 0] (.tup []) := by
  intro off
  refine Af (N := 49) (rs := []) hG Try.func103 rfl rfl rfl rfl rfl ?_
  repeat' (first | (show AL _ _ _ _ _ _ _ _; first | refine so0 ?_) | (show DL _ _ _ _ _ _ _; first | refine do0 ?_) | (show AW _ _ _ _ _ _; first | (show AW _ _ (.region _ _ _) _ _ _; refine sc0 ?_; intro O1) | (refine sc0 ?_; try intro Q1)) | (show (_ → _) ∧ _; refine ⟨fun h => ?_, fun h => ?_⟩) | fail)
  refine A5 (X := Unit) (fun _ => [(2, .int .i64 0), (6, .int .i64 1)]) (fun _ => ⟨[], [], off, none⟩) (fun _ => 0) () (by repeat (first | exact .nil _ | refine .cons rfl ?_)) (.refl _) ?_
  intro _
  repeat' (first | (show AL _ _ _ _ _ _ _ _; first | refine so0 ?_) | (show DL _ _ _ _ _ _ _; first | refine do0 ?_) | (show AW _ _ _ _ _ _; first | (show AW _ _ (.region _ _ _) _ _ _; refine sc0 ?_; intro O1) | (refine sc0 ?_; try intro Q1)) | (show (_ → _) ∧ _; refine ⟨fun h => ?_, fun h => ?_⟩) | fail)
  refine Be ?_
  exact ret_pureE Ag (.refl _) rfl
theorem pdq0 : Ts.Pure Try.prog 90 [n0T, .int .i64 0, .int .i64 0, .int .i64 0] (.tup []) := by
  have h := ins0
  intro off
  refine Af (N := 134) (rs := []) hG Try.func90 rfl rfl rfl rfl rfl ?_
  repeat' (first | (show AL _ _ _ _ _ _ _ _; first | refine so0 ?_) | (show DL _ _ _ _ _ _ _; first | refine do0 ?_) | (show AW _ _ _ _ _ _; first | (show AW _ _ (.region _ _ _) _ _ _; refine sc0 ?_; intro O1) | (refine sc0 ?_; try intro Q1)) | (show (_ → _) ∧ _; refine ⟨fun h => ?_, fun h => ?_⟩) | fail)
  refine A5 (X := Unit) (fun _ => [(0, n0T), (1, .int .i64 0), (2, .int .i64 0), (3, .int .i64 0)]) (fun _ => ⟨[], [], off, none⟩) (fun _ => 0) () (by repeat (first | exact .nil _ | refine .cons rfl ?_)) (.refl _) ?_
  intro _
  repeat' (first | (show AL _ _ _ _ _ _ _ _; first | refine so0 ?_ | refine sp Y Y Y Y Y Y (by apply h <;> exact sd) ?_) | (show DL _ _ _ _ _ _ _; first | refine do0 ?_ | refine dp Y Y Y Y Y Y Y (by apply h <;> exact sd) ?_) | (show AW _ _ _ _ _ _; first | (show AW _ _ (.region _ _ _) _ _ _; refine sc0 ?_; intro O1) | (refine sc0 ?_; try intro Q1)) | (show (_ → _) ∧ _; refine ⟨fun h => ?_, fun h => ?_⟩) | fail)
  exact Bj Ag (.refl _) rfl
theorem sort0 : Ts.Pure Try.prog 63 [.nilsl] (.tup []) := by
  refine Pure.weak (us := [n0T]) ?_ (wk1 (.nil 1))
  have h := pdq0
  have h1 := bits_Len (x := 0) (by omega)
  intro off
  refine Af (N := 11) (rs := []) hG Try.func63 rfl rfl rfl rfl rfl ?_
  repeat' (first | (show AL _ _ _ _ _ _ _ _; first | refine so0 ?_ | refine sp Y Y Y Y Y Y (by apply h <;> exact sd) ?_ | refine sp Y Y Y Y Y Y (by apply h1 <;> exact sd) ?_) | (show AW _ _ _ _ _ _; first | (show AW _ _ (.region _ _ _) _ _ _; refine sc0 ?_; intro O1) | (refine sc0 ?_; try intro Q1)) | (show (_ → _) ∧ _; refine ⟨fun h => ?_, fun h => ?_⟩) | fail)
  refine al_nil ?_
  exact ret_pureE Ag (.refl _) rfl
theorem chunks_one : ∀ (n : Nat) (cs : List T), cs.length = n → chunks 1 n cs = cs
  | 0, [], _ => rfl
  | n + 1, c :: cs, h => by
    simp only [chunks, List.headD_cons, List.drop_succ_cons, List.drop_zero, show Nat.beq 1 1 = true from rfl, cond_true]
    rw [chunks_one n cs (by simpa using h)]
def bE : List Nat → Nat → T
  | [], _ => .nilsl
  | x :: l, i => .aref 1 i 0 (x :: l).length none
theorem rowN_snoc (l : List Nat) (c : Nat) : (rowT mT l.toArray).drop 0 ++ flat [mT c] = rowT mT (l ++ [c]).toArray := by
  unfold rowT; simp [flat, Aj]
def srtL (l : List Nat) : List Nat := (Go.Sort.sort ltQ l.toArray).toList
theorem srtL_spec (l : List Nat) : (srtL l).Perm l ∧ (srtL l).Pairwise (fun x y => ¬ y < x) := by
  obtain ⟨⟨h1, _, h2⟩, h3⟩ := Go.Sort.sort_sorts ltQ ltQ_swo l.toArray
  unfold srtL
  generalize Go.Sort.sort ltQ l.toArray = s at *
  have h5 : s.size = l.length := by simpa using h1
  refine ⟨?_, ?_⟩
  · have h6 : s.toList.Perm (List.take s.size l) := by simpa [← h1] using h2
    rw [h5, List.take_length] at h6; exact h6
  · rw [List.pairwise_iff_getElem]
    intro i j hi hj hij
    have := h3 i j (Nat.zero_le _) hij (by rw [← h1]; simpa using hj)
    rw [getElem!_pos s j (by simpa using hj), getElem!_pos s i (by simpa using hi)] at this
    simpa [ltQ] using this
theorem sorted_eq : ∀ (a b : List Nat), a.Perm b → a.Pairwise (fun x y => ¬ y < x) → b.Pairwise (fun x y => ¬ y < x) → a = b
  | [], b, h, _, _ => h.nil_eq
  | x :: a, [], h, _, _ => absurd h.length_eq (by simp)
  | x :: a, y :: b, h, ha, hb => by
    obtain ⟨ha1, ha2⟩ := List.pairwise_cons.1 ha
    obtain ⟨hb1, hb2⟩ := List.pairwise_cons.1 hb
    have hxy : x = y := by
      have h1 : ¬ y < x := by
        rcases List.mem_cons.1 (h.mem_iff.2 (List.mem_cons_self : y ∈ y :: b)) with e | e
        · omega
        · exact ha1 y e
      have h2 : ¬ x < y := by
        rcases List.mem_cons.1 (h.mem_iff.1 (List.mem_cons_self : x ∈ x :: a)) with e | e
        · omega
        · exact hb1 x e
      omega
    subst hxy
    rw [sorted_eq a b (List.Perm.cons_inv h) ha2 hb2]
theorem srtL_len (l : List Nat) : (srtL l).length = l.length := (srtL_spec l).1.length_eq
theorem srtL_nil : srtL [] = [] := List.length_eq_zero_iff.1 (srtL_len [])
theorem srtL_up {l : List Nat} (h : l.Nodup) : (srtL l).Pairwise (· < ·) := by
  have h1 := (srtL_spec l).2
  have h2 : (srtL l).Nodup := (srtL_spec l).1.nodup_iff.2 h
  exact (h1.and h2).imp fun ⟨h3, h4⟩ => by omega
theorem upn_ext {a b : List Nat} (ha : a.Pairwise (· < ·)) (hb : b.Pairwise (· < ·)) (h : ∀ x, x ∈ a ↔ x ∈ b) : a = b :=
  sorted_eq a b ((List.perm_ext_iff_of_nodup (ha.imp fun h => by omega) (hb.imp fun h => by omega)).2 h) (ha.imp fun h => by omega) (hb.imp fun h => by omega)
def insN (x : Nat) : List Nat → List Nat
  | [] => [x]
  | y :: l => if y < x then y :: insN x l else x :: y :: l
def isort (l : List Nat) : List Nat := l.foldl (fun a x => insN x a) []
theorem insN_perm (x : Nat) : ∀ l : List Nat, (insN x l).Perm (x :: l)
  | [] => .refl _
  | y :: l => by
    rw [insN]; split
    · exact ((insN_perm x l).cons y).trans (.swap x y l)
    · exact .refl _
theorem insN_sorted (x : Nat) : ∀ l : List Nat, l.Pairwise (fun x y => ¬ y < x) → (insN x l).Pairwise (fun x y => ¬ y < x)
  | [], _ => by simp [insN]
  | y :: l, h => by
    obtain ⟨h1, h2⟩ := List.pairwise_cons.1 h
    rw [insN]; split
    · rename_i h3
      refine List.pairwise_cons.2 ⟨fun z hz => ?_, insN_sorted x l h2⟩
      rcases List.mem_cons.1 ((insN_perm x l).mem_iff.1 hz) with rfl | hz
      · omega
      · exact h1 z hz
    · rename_i h3
      refine List.pairwise_cons.2 ⟨fun z hz => ?_, h⟩
      rcases List.mem_cons.1 hz with rfl | hz
      · exact h3
      · have := h1 z hz; omega
theorem isort_spec : ∀ (l a : List Nat), a.Pairwise (fun x y => ¬ y < x) → (l.foldl (fun a x => insN x a) a).Perm (l ++ a) ∧ (l.foldl (fun a x => insN x a) a).Pairwise (fun x y => ¬ y < x)
  | [], a, h => ⟨.refl _, h⟩
  | x :: l, a, h => by
    obtain ⟨h1, h2⟩ := isort_spec l (insN x a) (insN_sorted x a h)
    refine ⟨h1.trans (((insN_perm x a).append_left l).trans ?_), h2⟩
    rw [List.cons_append]; exact List.perm_middle
theorem srtL_isort (l : List Nat) : srtL l = isort l :=
  sorted_eq _ _ ((srtL_spec l).1.trans (by have := (isort_spec l [] .nil).1; rw [List.append_nil] at this; exact this.symm)) (srtL_spec l).2 (isort_spec l [] .nil).2
end Go.Proofs.Ythfgocinlbogeaa
set_option maxHeartbeats 4000000
namespace Go.Proofs.Ythfgocinlbogeaa
open Go.Ts
set_option linter.unusedSimpArgs false
set_option linter.unusedVariables false
set_option linter.unnecessarySimpa false
attribute [local irreducible] Go.Ts.AW Go.Ts.AOps Go.Ts.AL Go.Ts.AOp Go.Ts.ACalls Go.Ts.DL Go.Ts.DQ0 Go.Ts.EL
def namesOf (l : List SB) : List Nat := (l.filter (·.taken)).map (·.id)
def idsA (l : List SB) : List Nat := srtL (namesOf l)
def bL : List Nat → Nat → List (Nat × Ob)
  | [], _ => []
  | x :: l, i => [(i, .cells (rowT mT (x :: l).toArray))]
structure IaX (l : List SB) where
  i : Nat
  y : Nat
  hi : i ≤ l.length
theorem names_succ {l : List SB} {i : Nat} (h : i < l.length) : namesOf (l.take (i + 1)) = namesOf (l.take i) ++ (if (l.getD i default).taken = true then [(l.getD i default).id] else []) := by
  unfold namesOf
  rw [List.take_add_one, List.filter_append, List.map_append]
  congr 1
  simp only [List.getElem?_eq_getElem h, Option.toList_some, List.getD, Option.getD_some]
  by_cases hb : l[i].taken = true <;> simp [hb]
set_option maxHeartbeats 9000000 in
theorem arena_IDs (v : UInt8) (l : List SB) (at' : List (Nat × Int)) (hl : l.length ≤ 255) (p ri m : Nat) : OnL Try.prog 33 [.ptr p 0] (arL v l at' p ri m) (fun u L => u = .sl 1 .no ((idsA l).map mT) ∧ L = arL v l at' p ri m) := by
  intro off
  cases l with
  | nil =>
    have hs0 := sort0
    refine Af (N := 28) (rs := [.tmp 2]) hG Try.func33 rfl rfl rfl rfl rfl ?_
    repeat' (first | (show AL _ _ _ _ _ _ _ _; first | (refine Ac Y ?_; (first | (show AOp _ _ ⟨_, .indexAddr _ _ _, _, _, _, _⟩ _ _ _; refine Ak (sz := 4) hG Y Y Y Y Y Y Y (by omega) ?_) | (show AOp _ _ ⟨_, .load _ _, _, _, _, _⟩ _ _ _; first | refine Ab 0 sbT hG Y Y Y Y Y (by omega) Y ?_ | refine Aa 0 sbT hG Y Y Y Y Y (by omega) Y ?_ | refine Ab 1 sbT hG Y Y Y Y Y (by omega) Y ?_ | refine Aa 1 sbT hG Y Y Y Y Y (by omega) Y ?_ | refine Ab 2 sbT hG Y Y Y Y Y (by omega) Y ?_ | refine Aa 2 sbT hG Y Y Y Y Y (by omega) Y ?_ | refine Ab 3 sbT hG Y Y Y Y Y (by omega) Y ?_ | refine Aa 3 sbT hG Y Y Y Y Y (by omega) Y ?_))) | refine so2 ?_ | (refine sa ?_; intro k) | (refine sb ?_; intro i)) | (show AW _ _ _ _ _ _; first | (show AW _ _ (.region _ _ _) _ _ _; refine sc0 ?_; intro O1) | (refine sc1 ?_; try intro Q1)) | (show (_ → _) ∧ _; refine ⟨fun h => ?_, fun h => ?_⟩) | fail)
    refine A5 (X := Unit) (fun _ => [(3, .nilsl), (12, .int .i64 0), (13, .int .i64 0)]) (fun _ => ⟨arL v [] at' p ri m, [], off, none⟩) (fun _ => 0) () (by repeat (first | exact .nil _ | refine .cons rfl ?_)) (.refl _) ?_
    intro _
    repeat' (first | (show AL _ _ _ _ _ _ _ _; first | (refine Ac Y ?_; (first | (show AOp _ _ ⟨_, .indexAddr _ _ _, _, _, _, _⟩ _ _ _; refine Ak (sz := 4) hG Y Y Y Y Y Y Y (by omega) ?_) | (show AOp _ _ ⟨_, .load _ _, _, _, _, _⟩ _ _ _; first | refine Ab 0 sbT hG Y Y Y Y Y (by omega) Y ?_ | refine Aa 0 sbT hG Y Y Y Y Y (by omega) Y ?_ | refine Ab 1 sbT hG Y Y Y Y Y (by omega) Y ?_ | refine Aa 1 sbT hG Y Y Y Y Y (by omega) Y ?_ | refine Ab 2 sbT hG Y Y Y Y Y (by omega) Y ?_ | refine Aa 2 sbT hG Y Y Y Y Y (by omega) Y ?_ | refine Ab 3 sbT hG Y Y Y Y Y (by omega) Y ?_ | refine Aa 3 sbT hG Y Y Y Y Y (by omega) Y ?_))) | refine so2 ?_ | refine sp Y Y Y Y Y Y (by apply hs0 <;> exact sd) ?_ | (refine sa ?_; intro k) | (refine sb ?_; intro i)) | (show AW _ _ _ _ _ _; first | (show AW _ _ (.region _ _ _) _ _ _; refine sc0 ?_; intro O1) | (refine sc1 ?_; try intro Q1)) | (show (_ → _) ∧ _; refine ⟨fun h => ?_, fun h => ?_⟩) | fail)
    refine Az (Ae rfl Ag) (.refl _) (.refl _) (.nil 1) rfl ⟨?_, rfl⟩
    rw [show idsA [] = [] from srtL_nil]; rfl
  | cons s l' =>
    obtain ⟨l, hll⟩ : ∃ l, s :: l' = l := ⟨_, rfl⟩
    have hne : l ≠ [] := by rw [← hll]; simp
    rw [hll] at hl ⊢
    have hA : arL v l at' p ri m = [(p, .cells [bT v, .aref 4 ri 0 l.length none, .map (some m)]), (m, .map (at'.map kvT)), (ri, .cells (flat (l.map sbT)))] := by
      unfold arL; rw [slT_ne hne, rowOf_ne hne]
    rw [hA]
    clear hll
    refine Af (N := 28) (rs := [.tmp 2]) hG Try.func33 rfl rfl rfl rfl rfl ?_
    repeat' (first | (show AL _ _ _ _ _ _ _ _; first | (refine Ac Y ?_; (first | (show AOp _ _ ⟨_, .indexAddr _ _ _, _, _, _, _⟩ _ _ _; refine Ak (sz := 4) hG Y Y Y Y Y Y Y (by omega) ?_) | (show AOp _ _ ⟨_, .load _ _, _, _, _, _⟩ _ _ _; first | refine Ab 0 sbT hG Y Y Y Y Y (by omega) Y ?_ | refine Aa 0 sbT hG Y Y Y Y Y (by omega) Y ?_ | refine Ab 1 sbT hG Y Y Y Y Y (by omega) Y ?_ | refine Aa 1 sbT hG Y Y Y Y Y (by omega) Y ?_ | refine Ab 2 sbT hG Y Y Y Y Y (by omega) Y ?_ | refine Aa 2 sbT hG Y Y Y Y Y (by omega) Y ?_ | refine Ab 3 sbT hG Y Y Y Y Y (by omega) Y ?_ | refine Aa 3 sbT hG Y Y Y Y Y (by omega) Y ?_))) | refine so2 ?_ | (refine sa ?_; intro k) | (refine sb ?_; intro i)) | (show AW _ _ _ _ _ _; first | (show AW _ _ (.region _ _ _) _ _ _; refine sc0 ?_; intro O1) | (refine sc1 ?_; try intro Q1)) | (show (_ → _) ∧ _; refine ⟨fun h => ?_, fun h => ?_⟩) | fail)
    refine A5 (X := IaX l) (fun x => [(3, bE (namesOf (l.take x.i)) x.y), (11, .aref 4 ri 0 l.length none), (12, .int .i64 (l.length : Int)), (13, .int .i64 (x.i : Int))]) (fun x => ⟨bL (namesOf (l.take x.i)) x.y ++ [(p, .cells [bT v, .aref 4 ri 0 l.length none, .map (some m)]), (m, .map (at'.map kvT)), (ri, .cells (flat (l.map sbT)))], [], off, none⟩) (fun x => l.length - x.i) ⟨0, 0, Nat.zero_le _⟩ (by repeat (first | exact .nil _ | refine .cons rfl ?_)) (.refl _) ?_
    rintro ⟨q, y, hi⟩
    dsimp only
    have hgl : (namesOf (l.take q)).length ≤ 255 := by
      unfold namesOf
      rw [List.length_map]
      refine Nat.le_trans (List.length_filter_le _ _) ?_
      rw [List.length_take]; omega
    by_cases hil : q < l.length
    · have hks := names_succ hil
      generalize namesOf (l.take q) = g at *
      have hsc : ∀ s : SB, (notRaw (sbT s) && (sbT s).cells.all T.scalar) = true := fun s => by
        unfold sbT recT
        cases s.taken <;> rfl
      cases ht : (l.getD q default).taken with
      | true =>
        rw [if_pos ht] at hks
        cases g with
        | nil =>
          repeat' (first | (show AL _ _ _ _ _ _ _ _; (fail_if_success show AL _ _ _ _ _ (⟨_, .store _ _ _, _, _, _, _⟩ :: _) _ _); first | (refine Ac Y ?_; (first | (show AOp _ _ ⟨_, .indexAddr _ _ _, _, _, _, _⟩ _ _ _; refine Ak (sz := 4) hG Y Y Y Y Y Y Y (by omega) ?_) | (show AOp _ _ ⟨_, .load _ _, _, _, _, _⟩ _ _ _; first | refine Ab 0 sbT hG Y Y Y Y Y (by omega) Y ?_ | refine Aa 0 sbT hG Y Y Y Y Y (by omega) Y ?_ | refine Ab 1 sbT hG Y Y Y Y Y (by omega) Y ?_ | refine Aa 1 sbT hG Y Y Y Y Y (by omega) Y ?_ | refine Ab 2 sbT hG Y Y Y Y Y (by omega) Y ?_ | refine Aa 2 sbT hG Y Y Y Y Y (by omega) Y ?_ | refine Ab 3 sbT hG Y Y Y Y Y (by omega) Y ?_ | refine Aa 3 sbT hG Y Y Y Y Y (by omega) Y ?_))) | refine so2 ?_ | (refine sa ?_; intro k) | (refine sb ?_; intro i)) | (show AW _ _ _ _ _ _; first | (show AW _ _ (.region _ _ _) _ _ _; refine sc0 ?_; intro O1) | (refine sc1 ?_; try intro Q1)) | (show (_ → _) ∧ _; refine ⟨fun h => ?_, fun h => ?_⟩) | fail)
          refine Ac rfl ?_
          refine r_st 0 (u := sbT (l.getD q default)) hG rfl rfl rfl (hsc _) rfl rfl rfl ?_
          repeat' (first | (show AL _ _ _ _ _ _ _ _; (fail_if_success show AL _ _ _ _ _ (⟨_, .call ⟨.builtin .append, _, _⟩, _, _, _, _⟩ :: _) _ _); first | (refine Ac Y ?_; (first | (show AOp _ _ ⟨_, .indexAddr _ _ _, _, _, _, _⟩ _ _ _; refine Ak (sz := 4) hG Y Y Y Y Y Y Y (by omega) ?_) | (show AOp _ _ ⟨_, .load _ _, _, _, _, _⟩ _ _ _; first | refine Ab 0 sbT hG Y Y Y Y Y (by omega) Y ?_ | refine Aa 0 sbT hG Y Y Y Y Y (by omega) Y ?_ | refine Ab 1 sbT hG Y Y Y Y Y (by omega) Y ?_ | refine Aa 1 sbT hG Y Y Y Y Y (by omega) Y ?_ | refine Ab 2 sbT hG Y Y Y Y Y (by omega) Y ?_ | refine Aa 2 sbT hG Y Y Y Y Y (by omega) Y ?_ | refine Ab 3 sbT hG Y Y Y Y Y (by omega) Y ?_ | refine Aa 3 sbT hG Y Y Y Y Y (by omega) Y ?_))) | refine so2 ?_ | (refine sa ?_; intro k) | (refine sb ?_; intro i)) | (show AW _ _ _ _ _ _; first | (show AW _ _ (.region _ _ _) _ _ _; refine sc0 ?_; intro O1) | (refine sc1 ?_; try intro Q1)) | (show (_ → _) ∧ _; refine ⟨fun h => ?_, fun h => ?_⟩) | fail)
          rotate_left
          · exact absurd (ht.symm.trans h) (by decide)
          refine Ac rfl (aop_app0L (objs := fun _ => none) (ys := [mT (l.getD q default).id]) hG rfl rfl rfl rfl rfl ⟨_, rfl⟩ rfl rfl (fun i o h => by cases h) rfl rfl (by simp) (by simp) rfl (fun i' hi' => ?_))
          repeat' (first | (show AL _ _ _ _ _ _ _ _; first | (refine Ac Y ?_; (first | (show AOp _ _ ⟨_, .indexAddr _ _ _, _, _, _, _⟩ _ _ _; refine Ak (sz := 4) hG Y Y Y Y Y Y Y (by omega) ?_) | (show AOp _ _ ⟨_, .load _ _, _, _, _, _⟩ _ _ _; first | refine Ab 0 sbT hG Y Y Y Y Y (by omega) Y ?_ | refine Aa 0 sbT hG Y Y Y Y Y (by omega) Y ?_ | refine Ab 1 sbT hG Y Y Y Y Y (by omega) Y ?_ | refine Aa 1 sbT hG Y Y Y Y Y (by omega) Y ?_ | refine Ab 2 sbT hG Y Y Y Y Y (by omega) Y ?_ | refine Aa 2 sbT hG Y Y Y Y Y (by omega) Y ?_ | refine Ab 3 sbT hG Y Y Y Y Y (by omega) Y ?_ | refine Aa 3 sbT hG Y Y Y Y Y (by omega) Y ?_))) | refine so2 ?_ | (refine sa ?_; intro k) | (refine sb ?_; intro i)) | (show AW _ _ _ _ _ _; first | (show AW _ _ (.region _ _ _) _ _ _; refine sc0 ?_; intro O1) | (refine sc1 ?_; try intro Q1)) | (show (_ → _) ∧ _; refine ⟨fun h => ?_, fun h => ?_⟩) | fail)
          exact ⟨⟨q + 1, i', by omega⟩, by dsimp only; omega, .consW rfl (.eq (by dsimp only; rw [hks]; rfl)) (.cons rfl (.cons rfl (.cons rfl (.nil _)))), by
            dsimp only; rw [hks]
            exact Bc (R' := []) (.cons_cons _ (List.sublist_cons_self _ _)) (List.nil_sublist _)⟩
        | cons z g =>
          repeat' (first | (show AL _ _ _ _ _ _ _ _; (fail_if_success show AL _ _ _ _ _ (⟨_, .store _ _ _, _, _, _, _⟩ :: _) _ _); first | (refine Ac Y ?_; (first | (show AOp _ _ ⟨_, .indexAddr _ _ _, _, _, _, _⟩ _ _ _; refine Ak (sz := 4) hG Y Y Y Y Y Y Y (by omega) ?_) | (show AOp _ _ ⟨_, .load _ _, _, _, _, _⟩ _ _ _; first | refine Ab 0 sbT hG Y Y Y Y Y (by omega) Y ?_ | refine Aa 0 sbT hG Y Y Y Y Y (by omega) Y ?_ | refine Ab 1 sbT hG Y Y Y Y Y (by omega) Y ?_ | refine Aa 1 sbT hG Y Y Y Y Y (by omega) Y ?_ | refine Ab 2 sbT hG Y Y Y Y Y (by omega) Y ?_ | refine Aa 2 sbT hG Y Y Y Y Y (by omega) Y ?_ | refine Ab 3 sbT hG Y Y Y Y Y (by omega) Y ?_ | refine Aa 3 sbT hG Y Y Y Y Y (by omega) Y ?_))) | refine so2 ?_ | (refine sa ?_; intro k) | (refine sb ?_; intro i)) | (show AW _ _ _ _ _ _; first | (show AW _ _ (.region _ _ _) _ _ _; refine sc0 ?_; intro O1) | (refine sc1 ?_; try intro Q1)) | (show (_ → _) ∧ _; refine ⟨fun h => ?_, fun h => ?_⟩) | fail)
          refine Ac rfl ?_
          refine r_st 0 (u := sbT (l.getD q default)) hG rfl rfl rfl (hsc _) rfl rfl rfl ?_
          repeat' (first | (show AL _ _ _ _ _ _ _ _; (fail_if_success show AL _ _ _ _ _ (⟨_, .call ⟨.builtin .append, _, _⟩, _, _, _, _⟩ :: _) _ _); first | (refine Ac Y ?_; (first | (show AOp _ _ ⟨_, .indexAddr _ _ _, _, _, _, _⟩ _ _ _; refine Ak (sz := 4) hG Y Y Y Y Y Y Y (by omega) ?_) | (show AOp _ _ ⟨_, .load _ _, _, _, _, _⟩ _ _ _; first | refine Ab 0 sbT hG Y Y Y Y Y (by omega) Y ?_ | refine Aa 0 sbT hG Y Y Y Y Y (by omega) Y ?_ | refine Ab 1 sbT hG Y Y Y Y Y (by omega) Y ?_ | refine Aa 1 sbT hG Y Y Y Y Y (by omega) Y ?_ | refine Ab 2 sbT hG Y Y Y Y Y (by omega) Y ?_ | refine Aa 2 sbT hG Y Y Y Y Y (by omega) Y ?_ | refine Ab 3 sbT hG Y Y Y Y Y (by omega) Y ?_ | refine Aa 3 sbT hG Y Y Y Y Y (by omega) Y ?_))) | refine so2 ?_ | (refine sa ?_; intro k) | (refine sb ?_; intro i)) | (show AW _ _ _ _ _ _; first | (show AW _ _ (.region _ _ _) _ _ _; refine sc0 ?_; intro O1) | (refine sc1 ?_; try intro Q1)) | (show (_ → _) ∧ _; refine ⟨fun h => ?_, fun h => ?_⟩) | fail)
          rotate_left
          · exact absurd (ht.symm.trans h) (by decide)
          refine Ac rfl (aop_appL (n := 1) (objs := fun _ => none) (ys := [mT (l.getD q default).id]) hG rfl rfl rfl rfl rfl ⟨_, rfl⟩ rfl rfl ?_ rfl (fun i o h => by cases h) rfl rfl ?_ ?_ rfl (fun i' hi' => ?_))
          · simp [rowT_length]
          · intro q' hq; simp [flat, T.cells, mT] at hq; subst hq; rfl
          · simp only [List.length_cons, List.length_nil] at *; omega
          repeat' (first | (show AL _ _ _ _ _ _ _ _; first | (refine Ac Y ?_; (first | (show AOp _ _ ⟨_, .indexAddr _ _ _, _, _, _, _⟩ _ _ _; refine Ak (sz := 4) hG Y Y Y Y Y Y Y (by omega) ?_) | (show AOp _ _ ⟨_, .load _ _, _, _, _, _⟩ _ _ _; first | refine Ab 0 sbT hG Y Y Y Y Y (by omega) Y ?_ | refine Aa 0 sbT hG Y Y Y Y Y (by omega) Y ?_ | refine Ab 1 sbT hG Y Y Y Y Y (by omega) Y ?_ | refine Aa 1 sbT hG Y Y Y Y Y (by omega) Y ?_ | refine Ab 2 sbT hG Y Y Y Y Y (by omega) Y ?_ | refine Aa 2 sbT hG Y Y Y Y Y (by omega) Y ?_ | refine Ab 3 sbT hG Y Y Y Y Y (by omega) Y ?_ | refine Aa 3 sbT hG Y Y Y Y Y (by omega) Y ?_))) | refine so2 ?_ | (refine sa ?_; intro k) | (refine sb ?_; intro i)) | (show AW _ _ _ _ _ _; first | (show AW _ _ (.region _ _ _) _ _ _; refine sc0 ?_; intro O1) | (refine sc1 ?_; try intro Q1)) | (show (_ → _) ∧ _; refine ⟨fun h => ?_, fun h => ?_⟩) | fail)
          exact ⟨⟨q + 1, i', by omega⟩, by dsimp only; omega, .consW rfl (.eq (by dsimp only; rw [hks]; simp [bE])) (.cons rfl (.cons rfl (.cons rfl (.nil _)))), by
            dsimp only; rw [hks]
            refine Go.Ts.GStep.trans (σ1 := ⟨(i', .cells ((rowT mT (z :: g).toArray).drop 0 ++ flat [mT (l.getD q default).id])) :: [(p, .cells [bT v, .aref 4 ri 0 l.length none, .map (some m)]), (m, .map (at'.map kvT)), (ri, .cells (flat (l.map sbT)))], [], off, none⟩) (Bc (R' := []) (.cons_cons _ (List.sublist_cons_self _ _)) (List.nil_sublist _)) ?_
            rw [rowN_snoc]; exact .refl _⟩
      | false =>
        rw [if_neg (by rw [ht]; exact Bool.false_ne_true), List.append_nil] at hks
        cases g with
        | nil =>
          repeat' (first | (show AL _ _ _ _ _ _ _ _; (fail_if_success show AL _ _ _ _ _ (⟨_, .store _ _ _, _, _, _, _⟩ :: _) _ _); first | (refine Ac Y ?_; (first | (show AOp _ _ ⟨_, .indexAddr _ _ _, _, _, _, _⟩ _ _ _; refine Ak (sz := 4) hG Y Y Y Y Y Y Y (by omega) ?_) | (show AOp _ _ ⟨_, .load _ _, _, _, _, _⟩ _ _ _; first | refine Ab 0 sbT hG Y Y Y Y Y (by omega) Y ?_ | refine Aa 0 sbT hG Y Y Y Y Y (by omega) Y ?_ | refine Ab 1 sbT hG Y Y Y Y Y (by omega) Y ?_ | refine Aa 1 sbT hG Y Y Y Y Y (by omega) Y ?_ | refine Ab 2 sbT hG Y Y Y Y Y (by omega) Y ?_ | refine Aa 2 sbT hG Y Y Y Y Y (by omega) Y ?_ | refine Ab 3 sbT hG Y Y Y Y Y (by omega) Y ?_ | refine Aa 3 sbT hG Y Y Y Y Y (by omega) Y ?_))) | refine so2 ?_ | (refine sa ?_; intro k) | (refine sb ?_; intro i)) | (show AW _ _ _ _ _ _; first | (show AW _ _ (.region _ _ _) _ _ _; refine sc0 ?_; intro O1) | (refine sc1 ?_; try intro Q1)) | (show (_ → _) ∧ _; refine ⟨fun h => ?_, fun h => ?_⟩) | fail)
          refine Ac rfl ?_
          refine r_st 0 (u := sbT (l.getD q default)) hG rfl rfl rfl (hsc _) rfl rfl rfl ?_
          repeat' (first | (show AL _ _ _ _ _ _ _ _; first | (refine Ac Y ?_; (first | (show AOp _ _ ⟨_, .indexAddr _ _ _, _, _, _, _⟩ _ _ _; refine Ak (sz := 4) hG Y Y Y Y Y Y Y (by omega) ?_) | (show AOp _ _ ⟨_, .load _ _, _, _, _, _⟩ _ _ _; first | refine Ab 0 sbT hG Y Y Y Y Y (by omega) Y ?_ | refine Aa 0 sbT hG Y Y Y Y Y (by omega) Y ?_ | refine Ab 1 sbT hG Y Y Y Y Y (by omega) Y ?_ | refine Aa 1 sbT hG Y Y Y Y Y (by omega) Y ?_ | refine Ab 2 sbT hG Y Y Y Y Y (by omega) Y ?_ | refine Aa 2 sbT hG Y Y Y Y Y (by omega) Y ?_ | refine Ab 3 sbT hG Y Y Y Y Y (by omega) Y ?_ | refine Aa 3 sbT hG Y Y Y Y Y (by omega) Y ?_))) | refine so2 ?_ | (refine sa ?_; intro k) | (refine sb ?_; intro i)) | (show AW _ _ _ _ _ _; first | (show AW _ _ (.region _ _ _) _ _ _; refine sc0 ?_; intro O1) | (refine sc1 ?_; try intro Q1)) | (show (_ → _) ∧ _; refine ⟨fun h => ?_, fun h => ?_⟩) | fail)
          · exact absurd (ht.symm.trans h) (by decide)
          exact ⟨⟨q + 1, y, by omega⟩, by dsimp only; omega, .consW rfl (.eq (by dsimp only; rw [hks])) (.cons rfl (.cons rfl (.cons rfl (.nil _)))), by
            dsimp only; rw [hks]
            exact Bc (R' := []) (List.sublist_cons_self _ _) (List.nil_sublist _)⟩
        | cons z g =>
          repeat' (first | (show AL _ _ _ _ _ _ _ _; (fail_if_success show AL _ _ _ _ _ (⟨_, .store _ _ _, _, _, _, _⟩ :: _) _ _); first | (refine Ac Y ?_; (first | (show AOp _ _ ⟨_, .indexAddr _ _ _, _, _, _, _⟩ _ _ _; refine Ak (sz := 4) hG Y Y Y Y Y Y Y (by omega) ?_) | (show AOp _ _ ⟨_, .load _ _, _, _, _, _⟩ _ _ _; first | refine Ab 0 sbT hG Y Y Y Y Y (by omega) Y ?_ | refine Aa 0 sbT hG Y Y Y Y Y (by omega) Y ?_ | refine Ab 1 sbT hG Y Y Y Y Y (by omega) Y ?_ | refine Aa 1 sbT hG Y Y Y Y Y (by omega) Y ?_ | refine Ab 2 sbT hG Y Y Y Y Y (by omega) Y ?_ | refine Aa 2 sbT hG Y Y Y Y Y (by omega) Y ?_ | refine Ab 3 sbT hG Y Y Y Y Y (by omega) Y ?_ | refine Aa 3 sbT hG Y Y Y Y Y (by omega) Y ?_))) | refine so2 ?_ | (refine sa ?_; intro k) | (refine sb ?_; intro i)) | (show AW _ _ _ _ _ _; first | (show AW _ _ (.region _ _ _) _ _ _; refine sc0 ?_; intro O1) | (refine sc1 ?_; try intro Q1)) | (show (_ → _) ∧ _; refine ⟨fun h => ?_, fun h => ?_⟩) | fail)
          refine Ac rfl ?_
          refine r_st 0 (u := sbT (l.getD q default)) hG rfl rfl rfl (hsc _) rfl rfl rfl ?_
          repeat' (first | (show AL _ _ _ _ _ _ _ _; first | (refine Ac Y ?_; (first | (show AOp _ _ ⟨_, .indexAddr _ _ _, _, _, _, _⟩ _ _ _; refine Ak (sz := 4) hG Y Y Y Y Y Y Y (by omega) ?_) | (show AOp _ _ ⟨_, .load _ _, _, _, _, _⟩ _ _ _; first | refine Ab 0 sbT hG Y Y Y Y Y (by omega) Y ?_ | refine Aa 0 sbT hG Y Y Y Y Y (by omega) Y ?_ | refine Ab 1 sbT hG Y Y Y Y Y (by omega) Y ?_ | refine Aa 1 sbT hG Y Y Y Y Y (by omega) Y ?_ | refine Ab 2 sbT hG Y Y Y Y Y (by omega) Y ?_ | refine Aa 2 sbT hG Y Y Y Y Y (by omega) Y ?_ | refine Ab 3 sbT hG Y Y Y Y Y (by omega) Y ?_ | refine Aa 3 sbT hG Y Y Y Y Y (by omega) Y ?_))) | refine so2 ?_ | (refine sa ?_; intro k) | (refine sb ?_; intro i)) | (show AW _ _ _ _ _ _; first | (show AW _ _ (.region _ _ _) _ _ _; refine sc0 ?_; intro O1) | (refine sc1 ?_; try intro Q1)) | (show (_ → _) ∧ _; refine ⟨fun h => ?_, fun h => ?_⟩) | fail)
          · exact absurd (ht.symm.trans h) (by decide)
          exact ⟨⟨q + 1, y, by omega⟩, by dsimp only; omega, .consW rfl (.eq (by dsimp only; rw [hks])) (.cons rfl (.cons rfl (.cons rfl (.nil _)))), by
            dsimp only; rw [hks]
            exact Bc (R' := []) (List.sublist_cons_self _ _) (List.nil_sublist _)⟩
    · have hqe : l.take q = l := List.take_of_length_le (by omega)
      rw [hqe] at hgl ⊢
      obtain ⟨g, hg⟩ : ∃ g, namesOf l = g := ⟨_, rfl⟩
      have hR : idsA l = srtL g := by unfold idsA; rw [hg]
      rw [hg] at hgl ⊢
      have hgl2 := srtL_len g
      cases g with
      | nil =>
        have hs0 := sort0
        repeat' (first | (show AL _ _ _ _ _ _ _ _; first | (refine Ac Y ?_; (first | (show AOp _ _ ⟨_, .indexAddr _ _ _, _, _, _, _⟩ _ _ _; refine Ak (sz := 4) hG Y Y Y Y Y Y Y (by omega) ?_) | (show AOp _ _ ⟨_, .load _ _, _, _, _, _⟩ _ _ _; first | refine Ab 0 sbT hG Y Y Y Y Y (by omega) Y ?_ | refine Aa 0 sbT hG Y Y Y Y Y (by omega) Y ?_ | refine Ab 1 sbT hG Y Y Y Y Y (by omega) Y ?_ | refine Aa 1 sbT hG Y Y Y Y Y (by omega) Y ?_ | refine Ab 2 sbT hG Y Y Y Y Y (by omega) Y ?_ | refine Aa 2 sbT hG Y Y Y Y Y (by omega) Y ?_ | refine Ab 3 sbT hG Y Y Y Y Y (by omega) Y ?_ | refine Aa 3 sbT hG Y Y Y Y Y (by omega) Y ?_))) | refine so2 ?_ | refine sp Y Y Y Y Y Y (by apply hs0 <;> exact sd) ?_ | (refine sa ?_; intro k) | (refine sb ?_; intro i)) | (show AW _ _ _ _ _ _; first | (show AW _ _ (.region _ _ _) _ _ _; refine sc0 ?_; intro O1) | (refine sc1 ?_; try intro Q1)) | (show (_ → _) ∧ _; refine ⟨fun h => ?_, fun h => ?_⟩) | fail)
        refine Az (Ae rfl Ag) (.refl _) (.refl _) (.nil 1) rfl ⟨?_, rfl⟩
        rw [hR, List.length_eq_zero_iff.1 hgl2]; rfl
      | cons z g =>
        have hs1 := srt_sort (d0 := (z :: g).toArray) (by simp at hgl ⊢; omega)
        have hsz : (z :: g).toArray.size = (z :: g).length := rfl
        repeat' (first | (show AL _ _ _ _ _ _ _ _; first | (refine Ac Y ?_; (first | (show AOp _ _ ⟨_, .indexAddr _ _ _, _, _, _, _⟩ _ _ _; refine Ak (sz := 4) hG Y Y Y Y Y Y Y (by omega) ?_) | (show AOp _ _ ⟨_, .load _ _, _, _, _, _⟩ _ _ _; first | refine Ab 0 sbT hG Y Y Y Y Y (by omega) Y ?_ | refine Aa 0 sbT hG Y Y Y Y Y (by omega) Y ?_ | refine Ab 1 sbT hG Y Y Y Y Y (by omega) Y ?_ | refine Aa 1 sbT hG Y Y Y Y Y (by omega) Y ?_ | refine Ab 2 sbT hG Y Y Y Y Y (by omega) Y ?_ | refine Aa 2 sbT hG Y Y Y Y Y (by omega) Y ?_ | refine Ab 3 sbT hG Y Y Y Y Y (by omega) Y ?_ | refine Aa 3 sbT hG Y Y Y Y Y (by omega) Y ?_))) | refine so2 ?_ | (refine Ac Y (r_row Y Y Y Y Y (List.Perm.refl _) hs1 (by assumption) ?_)) | (refine sa ?_; intro k) | (refine sb ?_; intro i)) | (show AW _ _ _ _ _ _; (fail_if_success show AW _ _ (.region 11 _ _) _ _ _); first | (show AW _ _ (.region _ _ _) _ _ _; refine sc0 ?_; intro O1) | (refine sc1 ?_; try intro Q1)) | (show (_ → _) ∧ _; refine ⟨fun h => ?_, fun h => ?_⟩) | fail)
        have es : rowT mT (Go.Sort.sort ltQ (z :: g).toArray) = (srtL (z :: g)).map mT := by
          unfold srtL rowT; induction (Go.Sort.sort ltQ (z :: g).toArray).toList with
          | nil => rfl
          | cons a l ih => simpa [flat, Aj] using ih
        rw [es]
        have hln : ((srtL (z :: g)).map mT).length = g.length + 1 := by rw [List.length_map, hgl2]; rfl
        refine aw_freeze 0 3 rfl rfl ?_ ?_ ?_
        · rw [hln]; simp
        · refine List.all_eq_true.2 fun c hc => ?_
          obtain ⟨x, _, rfl⟩ := List.mem_map.1 (List.mem_of_mem_drop (List.mem_of_mem_take hc))
          rfl
        have ec : chunks 1 (z :: g).length ((((srtL (z :: g)).map mT).drop 0).take ((z :: g).length * 1)) = (srtL (z :: g)).map mT := by
          rw [List.drop_zero, List.take_of_length_le (by rw [hln]; simp)]
          exact chunks_one _ _ hln
        rw [ec]
        repeat' (first | (show AL _ _ _ _ _ _ _ _; first | (refine Ac Y ?_; (first | (show AOp _ _ ⟨_, .indexAddr _ _ _, _, _, _, _⟩ _ _ _; refine Ak (sz := 4) hG Y Y Y Y Y Y Y (by omega) ?_) | (show AOp _ _ ⟨_, .load _ _, _, _, _, _⟩ _ _ _; first | refine Ab 0 sbT hG Y Y Y Y Y (by omega) Y ?_ | refine Aa 0 sbT hG Y Y Y Y Y (by omega) Y ?_ | refine Ab 1 sbT hG Y Y Y Y Y (by omega) Y ?_ | refine Aa 1 sbT hG Y Y Y Y Y (by omega) Y ?_ | refine Ab 2 sbT hG Y Y Y Y Y (by omega) Y ?_ | refine Aa 2 sbT hG Y Y Y Y Y (by omega) Y ?_ | refine Ab 3 sbT hG Y Y Y Y Y (by omega) Y ?_ | refine Aa 3 sbT hG Y Y Y Y Y (by omega) Y ?_))) | refine so2 ?_ | (refine sa ?_; intro k) | (refine sb ?_; intro i)) | (show AW _ _ _ _ _ _; first | (show AW _ _ (.region _ _ _) _ _ _; refine sc0 ?_; intro O1) | (refine sc1 ?_; try intro Q1)) | (show (_ → _) ∧ _; refine ⟨fun h => ?_, fun h => ?_⟩) | fail)
        exact Az (r := .sl 1 .no ((srtL (z :: g)).map mT)) (Ae rfl Ag) (.refl _) (.refl _) (.refl _) rfl ⟨by rw [hR], rfl⟩
def sizeA (l : List SB) : Nat := (l.map fun s => if s.taken = true then s.bs.length else 0).sum
structure SzX (l : List SB) where
  i : Nat
  hi : i ≤ l.length
theorem sum_le : ∀ (l : List Nat), (∀ x ∈ l, x ≤ 1000000) → l.sum ≤ l.length * 1000000
  | [], _ => by simp
  | x :: l, h => by
    have := sum_le l fun y hy => h y (by simp [hy])
    have := h x (by simp)
    simp only [List.sum_cons, List.length_cons, Nat.add_mul]; omega
theorem sizeA_le {l : List SB} (hb : ∀ s ∈ l, s.bs.length ≤ 1000000) : sizeA l ≤ l.length * 1000000 := by
  unfold sizeA
  refine Nat.le_trans (sum_le _ fun x hx => ?_) (by rw [List.length_map]; exact Nat.le_refl _)
  obtain ⟨s, hs, rfl⟩ := List.mem_map.1 hx
  have := hb s hs
  split <;> omega
theorem sizeA_succ {l : List SB} {i : Nat} (h : i < l.length) : sizeA (l.take (i + 1)) = sizeA (l.take i) + (if (l.getD i default).taken = true then (l.getD i default).bs.length else 0) := by
  unfold sizeA
  rw [List.take_add_one, List.map_append, List.sum_append]
  simp [h, List.getD]
set_option maxHeartbeats 9000000 in
theorem arena_Size (v : UInt8) (l : List SB) (at' : List (Nat × Int)) (hl : l.length ≤ 255) (hb : ∀ s ∈ l, s.bs.length ≤ 1000000) (p ri m : Nat) : OnL Try.prog 35 [.ptr p 0] (arL v l at' p ri m) (fun u L => u = .int .i64 (sizeA l : Int) ∧ L = arL v l at' p ri m) := by
  intro off
  cases l with
  | nil =>
    refine Af (N := 24) (rs := [.tmp 2]) hG Try.func35 rfl rfl rfl rfl rfl ?_
    repeat' (first | (show AL _ _ _ _ _ _ _ _; first | (refine Ac Y ?_; (first | (show AOp _ _ ⟨_, .indexAddr _ _ _, _, _, _, _⟩ _ _ _; refine Ak (sz := 4) hG Y Y Y Y Y Y Y (by omega) ?_) | (show AOp _ _ ⟨_, .load _ _, _, _, _, _⟩ _ _ _; first | refine Ab 0 sbT hG Y Y Y Y Y (by omega) Y ?_ | refine Aa 0 sbT hG Y Y Y Y Y (by omega) Y ?_ | refine Ab 1 sbT hG Y Y Y Y Y (by omega) Y ?_ | refine Aa 1 sbT hG Y Y Y Y Y (by omega) Y ?_ | refine Ab 2 sbT hG Y Y Y Y Y (by omega) Y ?_ | refine Aa 2 sbT hG Y Y Y Y Y (by omega) Y ?_ | refine Ab 3 sbT hG Y Y Y Y Y (by omega) Y ?_ | refine Aa 3 sbT hG Y Y Y Y Y (by omega) Y ?_))) | refine so2 ?_ | (refine sb ?_; intro i)) | (show AW _ _ _ _ _ _; first | (show AW _ _ (.region _ _ _) _ _ _; refine sc0 ?_; intro O1) | (refine sc1 ?_; try intro Q1)) | (show (_ → _) ∧ _; refine ⟨fun h => ?_, fun h => ?_⟩) | fail)
    refine A5 (X := Unit) (fun _ => [(3, .int .i64 0), (12, .int .i64 0), (13, .int .i64 0)]) (fun _ => ⟨arL v [] at' p ri m, [], off, none⟩) (fun _ => 0) () (by repeat (first | exact .nil _ | refine .cons rfl ?_)) (.refl _) ?_
    intro _
    repeat' (first | (show AL _ _ _ _ _ _ _ _; first | (refine Ac Y ?_; (first | (show AOp _ _ ⟨_, .indexAddr _ _ _, _, _, _, _⟩ _ _ _; refine Ak (sz := 4) hG Y Y Y Y Y Y Y (by omega) ?_) | (show AOp _ _ ⟨_, .load _ _, _, _, _, _⟩ _ _ _; first | refine Ab 0 sbT hG Y Y Y Y Y (by omega) Y ?_ | refine Aa 0 sbT hG Y Y Y Y Y (by omega) Y ?_ | refine Ab 1 sbT hG Y Y Y Y Y (by omega) Y ?_ | refine Aa 1 sbT hG Y Y Y Y Y (by omega) Y ?_ | refine Ab 2 sbT hG Y Y Y Y Y (by omega) Y ?_ | refine Aa 2 sbT hG Y Y Y Y Y (by omega) Y ?_ | refine Ab 3 sbT hG Y Y Y Y Y (by omega) Y ?_ | refine Aa 3 sbT hG Y Y Y Y Y (by omega) Y ?_))) | refine so2 ?_ | (refine sb ?_; intro i)) | (show AW _ _ _ _ _ _; first | (show AW _ _ (.region _ _ _) _ _ _; refine sc0 ?_; intro O1) | (refine sc1 ?_; try intro Q1)) | (show (_ → _) ∧ _; refine ⟨fun h => ?_, fun h => ?_⟩) | fail)
    exact Az (Ae rfl Ag) (.refl _) (.refl _) (.refl _) rfl ⟨rfl, rfl⟩
  | cons s l' =>
    obtain ⟨l, hll⟩ : ∃ l, s :: l' = l := ⟨_, rfl⟩
    have hne : l ≠ [] := by rw [← hll]; simp
    rw [hll] at hl hb ⊢
    have hA : arL v l at' p ri m = [(p, .cells [bT v, .aref 4 ri 0 l.length none, .map (some m)]), (m, .map (at'.map kvT)), (ri, .cells (flat (l.map sbT)))] := by
      unfold arL; rw [slT_ne hne, rowOf_ne hne]
    rw [hA]
    clear hll
    refine Af (N := 24) (rs := [.tmp 2]) hG Try.func35 rfl rfl rfl rfl rfl ?_
    repeat' (first | (show AL _ _ _ _ _ _ _ _; first | (refine Ac Y ?_; (first | (show AOp _ _ ⟨_, .indexAddr _ _ _, _, _, _, _⟩ _ _ _; refine Ak (sz := 4) hG Y Y Y Y Y Y Y (by omega) ?_) | (show AOp _ _ ⟨_, .load _ _, _, _, _, _⟩ _ _ _; first | refine Ab 0 sbT hG Y Y Y Y Y (by omega) Y ?_ | refine Aa 0 sbT hG Y Y Y Y Y (by omega) Y ?_ | refine Ab 1 sbT hG Y Y Y Y Y (by omega) Y ?_ | refine Aa 1 sbT hG Y Y Y Y Y (by omega) Y ?_ | refine Ab 2 sbT hG Y Y Y Y Y (by omega) Y ?_ | refine Aa 2 sbT hG Y Y Y Y Y (by omega) Y ?_ | refine Ab 3 sbT hG Y Y Y Y Y (by omega) Y ?_ | refine Aa 3 sbT hG Y Y Y Y Y (by omega) Y ?_))) | refine so2 ?_ | (refine sb ?_; intro i)) | (show AW _ _ _ _ _ _; first | (show AW _ _ (.region _ _ _) _ _ _; refine sc0 ?_; intro O1) | (refine sc1 ?_; try intro Q1)) | (show (_ → _) ∧ _; refine ⟨fun h => ?_, fun h => ?_⟩) | fail)
    refine A5 (X := SzX l) (fun x => [(3, .int .i64 (sizeA (l.take x.i) : Int)), (11, .aref 4 ri 0 l.length none), (12, .int .i64 (l.length : Int)), (13, .int .i64 (x.i : Int))]) (fun x => ⟨[(p, .cells [bT v, .aref 4 ri 0 l.length none, .map (some m)]), (m, .map (at'.map kvT)), (ri, .cells (flat (l.map sbT)))], [], off, none⟩) (fun x => l.length - x.i) ⟨0, Nat.zero_le _⟩ (by repeat (first | exact .nil _ | refine .cons rfl ?_)) (.refl _) ?_
    rintro ⟨q, hi⟩
    dsimp only
    have hsz : sizeA (l.take q) ≤ 255000000 := by
      refine Nat.le_trans (sizeA_le fun s hs => hb s (List.mem_of_mem_take hs)) ?_
      rw [List.length_take]; omega
    by_cases hil : q < l.length
    · have hks := sizeA_succ hil
      have hbq := hb (l.getD q default) (by simp [List.getD, hil])
      generalize sizeA (l.take q) = n at *
      have hsc : ∀ s : SB, (notRaw (sbT s) && (sbT s).cells.all T.scalar) = true := fun s => by
        unfold sbT recT
        cases s.taken <;> rfl
      cases ht : (l.getD q default).taken with
      | true =>
        rw [if_pos ht] at hks
        have hrec : recT (l.getD q default) = .sl 1 .no ((l.getD q default).bs.map bT) := by unfold recT; rw [ht]; rfl
        repeat' (first | (show AL _ _ _ _ _ _ _ _; (fail_if_success show AL _ _ _ _ _ (⟨_, .store _ _ _, _, _, _, _⟩ :: _) _ _); first | (refine Ac Y ?_; (first | (show AOp _ _ ⟨_, .indexAddr _ _ _, _, _, _, _⟩ _ _ _; refine Ak (sz := 4) hG Y Y Y Y Y Y Y (by omega) ?_) | (show AOp _ _ ⟨_, .load _ _, _, _, _, _⟩ _ _ _; first | refine Ab 0 sbT hG Y Y Y Y Y (by omega) Y ?_ | refine Aa 0 sbT hG Y Y Y Y Y (by omega) Y ?_ | refine Ab 1 sbT hG Y Y Y Y Y (by omega) Y ?_ | refine Aa 1 sbT hG Y Y Y Y Y (by omega) Y ?_ | refine Ab 2 sbT hG Y Y Y Y Y (by omega) Y ?_ | refine Aa 2 sbT hG Y Y Y Y Y (by omega) Y ?_ | refine Ab 3 sbT hG Y Y Y Y Y (by omega) Y ?_ | refine Aa 3 sbT hG Y Y Y Y Y (by omega) Y ?_))) | refine so2 ?_ | (refine sb ?_; intro i)) | (show AW _ _ _ _ _ _; first | (show AW _ _ (.region _ _ _) _ _ _; refine sc0 ?_; intro O1) | (refine sc1 ?_; try intro Q1)) | (show (_ → _) ∧ _; refine ⟨fun h => ?_, fun h => ?_⟩) | fail)
        refine Ac rfl ?_
        refine r_st 0 (u := sbT (l.getD q default)) hG rfl rfl rfl (hsc _) rfl rfl rfl ?_
        repeat' (first | (show AL _ _ _ _ _ _ _ _; (fail_if_success show AL _ _ _ _ _ (⟨_, .call ⟨.builtin .len, _, _⟩, _, _, _, _⟩ :: _) _ _); first | (refine Ac Y ?_; (first | (show AOp _ _ ⟨_, .indexAddr _ _ _, _, _, _, _⟩ _ _ _; refine Ak (sz := 4) hG Y Y Y Y Y Y Y (by omega) ?_) | (show AOp _ _ ⟨_, .load _ _, _, _, _, _⟩ _ _ _; first | refine Ab 0 sbT hG Y Y Y Y Y (by omega) Y ?_ | refine Aa 0 sbT hG Y Y Y Y Y (by omega) Y ?_ | refine Ab 1 sbT hG Y Y Y Y Y (by omega) Y ?_ | refine Aa 1 sbT hG Y Y Y Y Y (by omega) Y ?_ | refine Ab 2 sbT hG Y Y Y Y Y (by omega) Y ?_ | refine Aa 2 sbT hG Y Y Y Y Y (by omega) Y ?_ | refine Ab 3 sbT hG Y Y Y Y Y (by omega) Y ?_ | refine Aa 3 sbT hG Y Y Y Y Y (by omega) Y ?_))) | refine so2 ?_ | (refine sb ?_; intro i)) | (show AW _ _ _ _ _ _; first | (show AW _ _ (.region _ _ _) _ _ _; refine sc0 ?_; intro O1) | (refine sc1 ?_; try intro Q1)) | (show (_ → _) ∧ _; refine ⟨fun h => ?_, fun h => ?_⟩) | fail)
        refine al_slot 19 rfl (u := .sl 1 .no ((l.getD q default).bs.map bT)) (.eq hrec) ?_
        repeat' (first | (show AL _ _ _ _ _ _ _ _; first | (refine Ac Y ?_; (first | (show AOp _ _ ⟨_, .indexAddr _ _ _, _, _, _, _⟩ _ _ _; refine Ak (sz := 4) hG Y Y Y Y Y Y Y (by omega) ?_) | (show AOp _ _ ⟨_, .load _ _, _, _, _, _⟩ _ _ _; first | refine Ab 0 sbT hG Y Y Y Y Y (by omega) Y ?_ | refine Aa 0 sbT hG Y Y Y Y Y (by omega) Y ?_ | refine Ab 1 sbT hG Y Y Y Y Y (by omega) Y ?_ | refine Aa 1 sbT hG Y Y Y Y Y (by omega) Y ?_ | refine Ab 2 sbT hG Y Y Y Y Y (by omega) Y ?_ | refine Aa 2 sbT hG Y Y Y Y Y (by omega) Y ?_ | refine Ab 3 sbT hG Y Y Y Y Y (by omega) Y ?_ | refine Aa 3 sbT hG Y Y Y Y Y (by omega) Y ?_))) | refine so2 ?_ | (refine sb ?_; intro i)) | (show AW _ _ _ _ _ _; first | (show AW _ _ (.region _ _ _) _ _ _; refine sc0 ?_; intro O1) | (refine sc1 ?_; try intro Q1)) | (show (_ → _) ∧ _; refine ⟨fun h => ?_, fun h => ?_⟩) | fail)
        exact ⟨⟨q + 1, by omega⟩, by dsimp only; omega, .consW rfl (.int (by dsimp only; rw [hks]; try omega)) (.cons rfl (.cons rfl (.cons rfl (.nil _)))), Bc (R' := []) (List.sublist_cons_self _ _) (List.nil_sublist _)⟩
      | false =>
        rw [if_neg (by rw [ht]; exact Bool.false_ne_true), Nat.add_zero] at hks
        have hrec : recT (l.getD q default) = .nilsl := by unfold recT; rw [ht]; rfl
        repeat' (first | (show AL _ _ _ _ _ _ _ _; (fail_if_success show AL _ _ _ _ _ (⟨_, .store _ _ _, _, _, _, _⟩ :: _) _ _); first | (refine Ac Y ?_; (first | (show AOp _ _ ⟨_, .indexAddr _ _ _, _, _, _, _⟩ _ _ _; refine Ak (sz := 4) hG Y Y Y Y Y Y Y (by omega) ?_) | (show AOp _ _ ⟨_, .load _ _, _, _, _, _⟩ _ _ _; first | refine Ab 0 sbT hG Y Y Y Y Y (by omega) Y ?_ | refine Aa 0 sbT hG Y Y Y Y Y (by omega) Y ?_ | refine Ab 1 sbT hG Y Y Y Y Y (by omega) Y ?_ | refine Aa 1 sbT hG Y Y Y Y Y (by omega) Y ?_ | refine Ab 2 sbT hG Y Y Y Y Y (by omega) Y ?_ | refine Aa 2 sbT hG Y Y Y Y Y (by omega) Y ?_ | refine Ab 3 sbT hG Y Y Y Y Y (by omega) Y ?_ | refine Aa 3 sbT hG Y Y Y Y Y (by omega) Y ?_))) | refine so2 ?_ | (refine sb ?_; intro i)) | (show AW _ _ _ _ _ _; first | (show AW _ _ (.region _ _ _) _ _ _; refine sc0 ?_; intro O1) | (refine sc1 ?_; try intro Q1)) | (show (_ → _) ∧ _; refine ⟨fun h => ?_, fun h => ?_⟩) | fail)
        refine Ac rfl ?_
        refine r_st 0 (u := sbT (l.getD q default)) hG rfl rfl rfl (hsc _) rfl rfl rfl ?_
        repeat' (first | (show AL _ _ _ _ _ _ _ _; (fail_if_success show AL _ _ _ _ _ (⟨_, .call ⟨.builtin .len, _, _⟩, _, _, _, _⟩ :: _) _ _); first | (refine Ac Y ?_; (first | (show AOp _ _ ⟨_, .indexAddr _ _ _, _, _, _, _⟩ _ _ _; refine Ak (sz := 4) hG Y Y Y Y Y Y Y (by omega) ?_) | (show AOp _ _ ⟨_, .load _ _, _, _, _, _⟩ _ _ _; first | refine Ab 0 sbT hG Y Y Y Y Y (by omega) Y ?_ | refine Aa 0 sbT hG Y Y Y Y Y (by omega) Y ?_ | refine Ab 1 sbT hG Y Y Y Y Y (by omega) Y ?_ | refine Aa 1 sbT hG Y Y Y Y Y (by omega) Y ?_ | refine Ab 2 sbT hG Y Y Y Y Y (by omega) Y ?_ | refine Aa 2 sbT hG Y Y Y Y Y (by omega) Y ?_ | refine Ab 3 sbT hG Y Y Y Y Y (by omega) Y ?_ | refine Aa 3 sbT hG Y Y Y Y Y (by omega) Y ?_))) | refine so2 ?_ | (refine sb ?_; intro i)) | (show AW _ _ _ _ _ _; first | (show AW _ _ (.region _ _ _) _ _ _; refine sc0 ?_; intro O1) | (refine sc1 ?_; try intro Q1)) | (show (_ → _) ∧ _; refine ⟨fun h => ?_, fun h => ?_⟩) | fail)
        refine al_slot 19 rfl (u := .nilsl) (.eq hrec) ?_
        repeat' (first | (show AL _ _ _ _ _ _ _ _; first | (refine Ac Y ?_; (first | (show AOp _ _ ⟨_, .indexAddr _ _ _, _, _, _, _⟩ _ _ _; refine Ak (sz := 4) hG Y Y Y Y Y Y Y (by omega) ?_) | (show AOp _ _ ⟨_, .load _ _, _, _, _, _⟩ _ _ _; first | refine Ab 0 sbT hG Y Y Y Y Y (by omega) Y ?_ | refine Aa 0 sbT hG Y Y Y Y Y (by omega) Y ?_ | refine Ab 1 sbT hG Y Y Y Y Y (by omega) Y ?_ | refine Aa 1 sbT hG Y Y Y Y Y (by omega) Y ?_ | refine Ab 2 sbT hG Y Y Y Y Y (by omega) Y ?_ | refine Aa 2 sbT hG Y Y Y Y Y (by omega) Y ?_ | refine Ab 3 sbT hG Y Y Y Y Y (by omega) Y ?_ | refine Aa 3 sbT hG Y Y Y Y Y (by omega) Y ?_))) | refine so2 ?_ | (refine sb ?_; intro i)) | (show AW _ _ _ _ _ _; first | (show AW _ _ (.region _ _ _) _ _ _; refine sc0 ?_; intro O1) | (refine sc1 ?_; try intro Q1)) | (show (_ → _) ∧ _; refine ⟨fun h => ?_, fun h => ?_⟩) | fail)
        exact ⟨⟨q + 1, by omega⟩, by dsimp only; omega, .consW rfl (.int (by dsimp only; rw [hks]; try omega)) (.cons rfl (.cons rfl (.cons rfl (.nil _)))), Bc (R' := []) (List.sublist_cons_self _ _) (List.nil_sublist _)⟩
    · rw [List.take_of_length_le (by omega)]
      repeat' (first | (show AL _ _ _ _ _ _ _ _; first | (refine Ac Y ?_; (first | (show AOp _ _ ⟨_, .indexAddr _ _ _, _, _, _, _⟩ _ _ _; refine Ak (sz := 4) hG Y Y Y Y Y Y Y (by omega) ?_) | (show AOp _ _ ⟨_, .load _ _, _, _, _, _⟩ _ _ _; first | refine Ab 0 sbT hG Y Y Y Y Y (by omega) Y ?_ | refine Aa 0 sbT hG Y Y Y Y Y (by omega) Y ?_ | refine Ab 1 sbT hG Y Y Y Y Y (by omega) Y ?_ | refine Aa 1 sbT hG Y Y Y Y Y (by omega) Y ?_ | refine Ab 2 sbT hG Y Y Y Y Y (by omega) Y ?_ | refine Aa 2 sbT hG Y Y Y Y Y (by omega) Y ?_ | refine Ab 3 sbT hG Y Y Y Y Y (by omega) Y ?_ | refine Aa 3 sbT hG Y Y Y Y Y (by omega) Y ?_))) | refine so2 ?_ | (refine sb ?_; intro i)) | (show AW _ _ _ _ _ _; first | (show AW _ _ (.region _ _ _) _ _ _; refine sc0 ?_; intro O1) | (refine sc1 ?_; try intro Q1)) | (show (_ → _) ∧ _; refine ⟨fun h => ?_, fun h => ?_⟩) | fail)
      exact Az (Ae rfl Ag) (.refl _) (.refl _) (.refl _) rfl ⟨rfl, rfl⟩
end Go.Proofs.Ythfgocinlbogeaa
set_option maxHeartbeats 4000000
namespace Go.Proofs.Ythfgocinlbogeaa
open Go.Ts
set_option linter.unusedSimpArgs false
set_option linter.unusedVariables false
set_option linter.unnecessarySimpa false
attribute [local irreducible] Go.Ts.AW Go.Ts.AOps Go.Ts.AL Go.Ts.AOp Go.Ts.ACalls Go.Ts.DL Go.Ts.DQ0 Go.Ts.EL
theorem arena_find_is (v : UInt8) (l : List SB) (at' : List (Nat × Int)) {id : Nat} {j : Int} (hk : khas at' id = true) (hj : klook at' id = j) (p ri m : Nat) : OnL Try.prog 65 [.ptr p 0, .int .u64 (id : Int)] (arL v l at' p ri m) (fun u L => u = .tup [.int .i64 j, .int .i64 0] ∧ L = arL v l at' p ri m) := by
  intro off
  refine Af (N := 22) (rs := [.tmp 4, .tmp 5]) hG Try.func65 rfl rfl rfl rfl rfl ?_
  repeat' (first | (show AL _ _ _ _ _ _ _ _; (fail_if_success show AL _ _ _ _ _ (⟨_, .lookup _ _ _ _, _, _, _, _⟩ :: _) _ _); first | (refine Ac Y ?_; (first | (show AOp _ _ ⟨_, .indexAddr _ _ _, _, _, _, _⟩ _ _ _; refine Ak (sz := 4) hG Y Y Y Y Y Y Y (by omega) ?_) | (show AOp _ _ ⟨_, .load _ _, _, _, _, _⟩ _ _ _; first | refine Ab 0 sbT hG Y Y Y Y Y (by omega) Y ?_ | refine Aa 0 sbT hG Y Y Y Y Y (by omega) Y ?_ | refine Ab 1 sbT hG Y Y Y Y Y (by omega) Y ?_ | refine Aa 1 sbT hG Y Y Y Y Y (by omega) Y ?_ | refine Ab 2 sbT hG Y Y Y Y Y (by omega) Y ?_ | refine Aa 2 sbT hG Y Y Y Y Y (by omega) Y ?_ | refine Ab 3 sbT hG Y Y Y Y Y (by omega) Y ?_ | refine Aa 3 sbT hG Y Y Y Y Y (by omega) Y ?_))) | refine so2 ?_) | (show AW _ _ _ _ _ _; first | (show AW _ _ (.region _ _ _) _ _ _; refine sc0 ?_; intro O1) | (refine sc1 ?_; try intro Q1)) | (show (_ → _) ∧ _; refine ⟨fun h => ?_, fun h => ?_⟩) | fail)
  refine Ac rfl (r_lookLo (n := 1) hj hk hG rfl rfl rfl rfl rfl rfl rfl rfl rfl rfl ?_)
  repeat' (first | (show AL _ _ _ _ _ _ _ _; first | (refine Ac Y ?_; (first | (show AOp _ _ ⟨_, .indexAddr _ _ _, _, _, _, _⟩ _ _ _; refine Ak (sz := 4) hG Y Y Y Y Y Y Y (by omega) ?_) | (show AOp _ _ ⟨_, .load _ _, _, _, _, _⟩ _ _ _; first | refine Ab 0 sbT hG Y Y Y Y Y (by omega) Y ?_ | refine Aa 0 sbT hG Y Y Y Y Y (by omega) Y ?_ | refine Ab 1 sbT hG Y Y Y Y Y (by omega) Y ?_ | refine Aa 1 sbT hG Y Y Y Y Y (by omega) Y ?_ | refine Ab 2 sbT hG Y Y Y Y Y (by omega) Y ?_ | refine Aa 2 sbT hG Y Y Y Y Y (by omega) Y ?_ | refine Ab 3 sbT hG Y Y Y Y Y (by omega) Y ?_ | refine Aa 3 sbT hG Y Y Y Y Y (by omega) Y ?_))) | refine so2 ?_) | (show AW _ _ _ _ _ _; first | (show AW _ _ (.region _ _ _) _ _ _; refine sc0 ?_; intro O1) | (refine sc1 ?_; try intro Q1)) | (show (_ → _) ∧ _; refine ⟨fun h => ?_, fun h => ?_⟩) | fail)
  exact Az (Ae rfl (Ae rfl Ag)) (.refl _) (.refl _) (.refl _) rfl ⟨rfl, rfl⟩
theorem arena_find_no (v : UInt8) (l : List SB) (at' : List (Nat × Int)) {id : Nat} (hk : khas at' id = false) (p ri m : Nat) : OnL Try.prog 65 [.ptr p 0, .int .u64 (id : Int)] (arL v l at' p ri m) (fun u L => u = .tup [.int .i64 0, .int .i64 7] ∧ L = arL v l at' p ri m) := by
  intro off
  refine Af (N := 22) (rs := [.tmp 4, .tmp 5]) hG Try.func65 rfl rfl rfl rfl rfl ?_
  repeat' (first | (show AL _ _ _ _ _ _ _ _; (fail_if_success show AL _ _ _ _ _ (⟨_, .lookup _ _ _ _, _, _, _, _⟩ :: _) _ _); first | (refine Ac Y ?_; (first | (show AOp _ _ ⟨_, .indexAddr _ _ _, _, _, _, _⟩ _ _ _; refine Ak (sz := 4) hG Y Y Y Y Y Y Y (by omega) ?_) | (show AOp _ _ ⟨_, .load _ _, _, _, _, _⟩ _ _ _; first | refine Ab 0 sbT hG Y Y Y Y Y (by omega) Y ?_ | refine Aa 0 sbT hG Y Y Y Y Y (by omega) Y ?_ | refine Ab 1 sbT hG Y Y Y Y Y (by omega) Y ?_ | refine Aa 1 sbT hG Y Y Y Y Y (by omega) Y ?_ | refine Ab 2 sbT hG Y Y Y Y Y (by omega) Y ?_ | refine Aa 2 sbT hG Y Y Y Y Y (by omega) Y ?_ | refine Ab 3 sbT hG Y Y Y Y Y (by omega) Y ?_ | refine Aa 3 sbT hG Y Y Y Y Y (by omega) Y ?_))) | refine so2 ?_) | (show AW _ _ _ _ _ _; first | (show AW _ _ (.region _ _ _) _ _ _; refine sc0 ?_; intro O1) | (refine sc1 ?_; try intro Q1)) | (show (_ → _) ∧ _; refine ⟨fun h => ?_, fun h => ?_⟩) | fail)
  refine Ac rfl (r_lookLo (n := 1) rfl hk hG rfl rfl rfl rfl rfl rfl rfl rfl rfl rfl ?_)
  repeat' (first | (show AL _ _ _ _ _ _ _ _; first | (refine Ac Y ?_; (first | (show AOp _ _ ⟨_, .indexAddr _ _ _, _, _, _, _⟩ _ _ _; refine Ak (sz := 4) hG Y Y Y Y Y Y Y (by omega) ?_) | (show AOp _ _ ⟨_, .load _ _, _, _, _, _⟩ _ _ _; first | refine Ab 0 sbT hG Y Y Y Y Y (by omega) Y ?_ | refine Aa 0 sbT hG Y Y Y Y Y (by omega) Y ?_ | refine Ab 1 sbT hG Y Y Y Y Y (by omega) Y ?_ | refine Aa 1 sbT hG Y Y Y Y Y (by omega) Y ?_ | refine Ab 2 sbT hG Y Y Y Y Y (by omega) Y ?_ | refine Aa 2 sbT hG Y Y Y Y Y (by omega) Y ?_ | refine Ab 3 sbT hG Y Y Y Y Y (by omega) Y ?_ | refine Aa 3 sbT hG Y Y Y Y Y (by omega) Y ?_))) | refine so2 ?_) | (show AW _ _ _ _ _ _; first | (show AW _ _ (.region _ _ _) _ _ _; refine sc0 ?_; intro O1) | (refine sc1 ?_; try intro Q1)) | (show (_ → _) ∧ _; refine ⟨fun h => ?_, fun h => ?_⟩) | fail)
  exact Az (Ae rfl (Ae rfl Ag)) (.refl _) (.refl _) (.refl _) rfl ⟨rfl, rfl⟩
theorem arena_Get_is (v : UInt8) (l : List SB) (at' : List (Nat × Int)) {id j : Nat} (hk : khas at' id = true) (hj : klook at' id = ((j : Nat) : Int)) (hjl : j < l.length) (ht : (l.getD j default).taken = true) (hb : (l.getD j default).bs.length ≤ 1000000) (p ri m : Nat) :
    OnL Try.prog 41 [.ptr p 0, .int .u64 (id : Int)] (arL v l at' p ri m) (fun u L => u = .tup [sT (l.getD j default).bs, .int .i64 0] ∧ L = arL v l at' p ri m) := by
  have hf := And.intro (arena_find_is v l at' hk hj p ri m) (List.Perm.of_eq (List.append_nil (arL v l at' p ri m)).symm)
  have hc := clone_p (b := (l.getD j default).bs) (by omega)
  have hne : l ≠ [] := by intro h; subst h; simp at hjl
  have hA : arL v l at' p ri m = [(p, .cells [bT v, .aref 4 ri 0 l.length none, .map (some m)]), (m, .map (at'.map kvT)), (ri, .cells (flat (l.map sbT)))] := by
    unfold arL; rw [slT_ne hne, rowOf_ne hne]
  have hrec : recT (l.getD j default) = sT (l.getD j default).bs := by unfold recT; rw [ht]; rfl
  rw [hA] at hf ⊢
  intro off
  refine Af (N := 26) (rs := [.tmp 4, .tmp 5]) hG Try.func41 rfl rfl rfl rfl rfl ?_
  repeat' (first | (show AL _ _ _ _ _ _ _ _; (fail_if_success show AL _ _ _ _ _ (⟨_, .call ⟨.value (.func 44), _, _⟩, _, _, _, _⟩ :: _) _ _); first | (refine Ac Y ?_; (first | (show AOp _ _ ⟨_, .indexAddr _ _ _, _, _, _, _⟩ _ _ _; refine Ak (sz := 4) hG Y Y Y Y Y Y Y (by omega) ?_) | (show AOp _ _ ⟨_, .load _ _, _, _, _, _⟩ _ _ _; first | refine Ab 0 sbT hG Y Y Y Y Y (by omega) Y ?_ | refine Aa 0 sbT hG Y Y Y Y Y (by omega) Y ?_ | refine Ab 1 sbT hG Y Y Y Y Y (by omega) Y ?_ | refine Aa 1 sbT hG Y Y Y Y Y (by omega) Y ?_ | refine Ab 2 sbT hG Y Y Y Y Y (by omega) Y ?_ | refine Aa 2 sbT hG Y Y Y Y Y (by omega) Y ?_ | refine Ab 3 sbT hG Y Y Y Y Y (by omega) Y ?_ | refine Aa 3 sbT hG Y Y Y Y Y (by omega) Y ?_))) | refine so2 ?_ | (refine Ac Y (r_onS Y Y Y Y hf.1 hf.2 ?_))) | (show AW _ _ _ _ _ _; first | (show AW _ _ (.region _ _ _) _ _ _; refine sc0 ?_; intro O1) | (refine sc1 ?_; try intro Q1)) | (show (_ → _) ∧ _; refine ⟨fun h => ?_, fun h => ?_⟩) | fail)
  refine al_slot 24 rfl (u := sT (l.getD j default).bs) (.eq hrec) ?_
  repeat' (first | (show AL _ _ _ _ _ _ _ _; first | (refine Ac Y ?_; (first | (show AOp _ _ ⟨_, .indexAddr _ _ _, _, _, _, _⟩ _ _ _; refine Ak (sz := 4) hG Y Y Y Y Y Y Y (by omega) ?_) | (show AOp _ _ ⟨_, .load _ _, _, _, _, _⟩ _ _ _; first | refine Ab 0 sbT hG Y Y Y Y Y (by omega) Y ?_ | refine Aa 0 sbT hG Y Y Y Y Y (by omega) Y ?_ | refine Ab 1 sbT hG Y Y Y Y Y (by omega) Y ?_ | refine Aa 1 sbT hG Y Y Y Y Y (by omega) Y ?_ | refine Ab 2 sbT hG Y Y Y Y Y (by omega) Y ?_ | refine Aa 2 sbT hG Y Y Y Y Y (by omega) Y ?_ | refine Ab 3 sbT hG Y Y Y Y Y (by omega) Y ?_ | refine Aa 3 sbT hG Y Y Y Y Y (by omega) Y ?_))) | refine so2 ?_ | refine sp Y Y Y Y Y Y (by apply hc <;> exact sd) ?_) | (show AW _ _ _ _ _ _; first | (show AW _ _ (.region _ _ _) _ _ _; refine sc0 ?_; intro O1) | (refine sc1 ?_; try intro Q1)) | (show (_ → _) ∧ _; refine ⟨fun h => ?_, fun h => ?_⟩) | fail)
  exact Az (Ae rfl (Ae rfl Ag)) (.refl _) (.refl _) (.refl _) rfl ⟨rfl, rfl⟩
theorem arena_Get_no (v : UInt8) (l : List SB) (at' : List (Nat × Int)) {id : Nat} (hk : khas at' id = false) (p ri m : Nat) :
    OnL Try.prog 41 [.ptr p 0, .int .u64 (id : Int)] (arL v l at' p ri m) (fun u L => u = .tup [.nilsl, .int .i64 7] ∧ L = arL v l at' p ri m) := by
  have hf := And.intro (arena_find_no v l at' hk p ri m) (List.Perm.of_eq (List.append_nil (arL v l at' p ri m)).symm)
  intro off
  refine Af (N := 26) (rs := [.tmp 4, .tmp 5]) hG Try.func41 rfl rfl rfl rfl rfl ?_
  repeat' (first | (show AL _ _ _ _ _ _ _ _; first | (refine Ac Y ?_; (first | (show AOp _ _ ⟨_, .indexAddr _ _ _, _, _, _, _⟩ _ _ _; refine Ak (sz := 4) hG Y Y Y Y Y Y Y (by omega) ?_) | (show AOp _ _ ⟨_, .load _ _, _, _, _, _⟩ _ _ _; first | refine Ab 0 sbT hG Y Y Y Y Y (by omega) Y ?_ | refine Aa 0 sbT hG Y Y Y Y Y (by omega) Y ?_ | refine Ab 1 sbT hG Y Y Y Y Y (by omega) Y ?_ | refine Aa 1 sbT hG Y Y Y Y Y (by omega) Y ?_ | refine Ab 2 sbT hG Y Y Y Y Y (by omega) Y ?_ | refine Aa 2 sbT hG Y Y Y Y Y (by omega) Y ?_ | refine Ab 3 sbT hG Y Y Y Y Y (by omega) Y ?_ | refine Aa 3 sbT hG Y Y Y Y Y (by omega) Y ?_))) | refine so2 ?_ | (refine Ac Y (r_onS Y Y Y Y hf.1 hf.2 ?_))) | (show AW _ _ _ _ _ _; first | (show AW _ _ (.region _ _ _) _ _ _; refine sc0 ?_; intro O1) | (refine sc1 ?_; try intro Q1)) | (show (_ → _) ∧ _; refine ⟨fun h => ?_, fun h => ?_⟩) | fail)
  exact Az (Ae rfl (Ae rfl Ag)) (.refl _) (.refl _) (.refl _) rfl ⟨rfl, rfl⟩
def stepB (l : List SB) (at' : List (Nat × Int)) (out : List UInt8) (id : Nat) : List UInt8 := putBs (out ++ putI (id : Int) 8) (l.getD (klook at' id).toNat default).bs
def bytesA (l : List SB) (at' : List (Nat × Int)) : List UInt8 := (idsA l).foldl (stepB l at') []
structure ByX (r : List Nat) where
  i : Nat
  hi : i ≤ r.length
theorem idsA_len (l : List SB) : (idsA l).length ≤ l.length := by
  unfold idsA namesOf
  rw [srtL_len, List.length_map]
  exact List.length_filter_le _ _
theorem idsA_lt (l : List SB) : ∀ id ∈ idsA l, id < 18446744073709551616 := by
  intro id hid
  obtain ⟨s, _, rfl⟩ := List.mem_map.1 ((srtL_spec _).1.mem_iff.1 hid)
  exact s.hid
theorem foldB_len {l : List SB} {at' : List (Nat × Int)} (hb : ∀ s ∈ l, s.bs.length ≤ 60000) : ∀ (r : List Nat) (out : List UInt8), (r.foldl (stepB l at') out).length ≤ out.length + r.length * 70000
  | [], out => by simp
  | id :: r, out => by
    have h1 := foldB_len (at' := at') hb r (stepB l at' out id)
    have h2 : (stepB l at' out id).length ≤ out.length + 70000 := by
      unfold stepB putBs
      have h3 : (l.getD (klook at' id).toNat default).bs.length ≤ 60000 := by
        rcases Nat.lt_or_ge (klook at' id).toNat l.length with h | h
        · exact hb _ (by simp [List.getD, h])
        · simp [List.getD, List.getElem?_eq_none h, show (default : SB).bs = [] from rfl]
      have h4 := putI_le (id : Int) 8
      have h5 := putI_le ((l.getD (klook at' id).toNat default).bs.length : Int) 2
      simp only [List.length_append]; omega
    rw [List.foldl_cons, List.length_cons]; omega
set_option maxHeartbeats 9000000 in
theorem arena_Bytes (v : UInt8) (l : List SB) (at' : List (Nat × Int)) (hl : l.length ≤ 255) (hb : ∀ s ∈ l, s.bs.length ≤ 60000) (hw : ∀ id ∈ idsA l, ∃ j : Nat, klook at' id = (j : Int) ∧ j < l.length ∧ (l.getD j default).taken = true) (p ri m : Nat) :
    OnL Try.prog 34 [.ptr p 0] (arL v l at' p ri m) (fun u L => u = sT (bytesA l at') ∧ L = arL v l at' p ri m) := by
  have hI := And.intro (arena_IDs v l at' hl p ri m) (List.Perm.of_eq (List.append_nil (arL v l at' p ri m)).symm)
  have hR : bytesA l at' = (idsA l).foldl (stepB l at') [] := rfl
  have hlt := idsA_lt l
  have hrl := idsA_len l
  rw [hR]
  clear hR
  generalize idsA l = r at *
  intro off
  refine Af (N := 32) (rs := [.tmp 2]) hG Try.func34 rfl rfl rfl rfl rfl ?_
  repeat' (first | (show AL _ _ _ _ _ _ _ _; first | (refine Ac Y ?_; (first | (show AOp _ _ ⟨_, .indexAddr _ _ _, _, _, _, _⟩ _ _ _; refine Ak (sz := 4) hG Y Y Y Y Y Y Y (by omega) ?_) | (show AOp _ _ ⟨_, .load _ _, _, _, _, _⟩ _ _ _; first | refine Ab 0 sbT hG Y Y Y Y Y (by omega) Y ?_ | refine Aa 0 sbT hG Y Y Y Y Y (by omega) Y ?_ | refine Ab 1 sbT hG Y Y Y Y Y (by omega) Y ?_ | refine Aa 1 sbT hG Y Y Y Y Y (by omega) Y ?_ | refine Ab 2 sbT hG Y Y Y Y Y (by omega) Y ?_ | refine Aa 2 sbT hG Y Y Y Y Y (by omega) Y ?_ | refine Ab 3 sbT hG Y Y Y Y Y (by omega) Y ?_ | refine Aa 3 sbT hG Y Y Y Y Y (by omega) Y ?_))) | refine so2 ?_ | (refine Ac Y (r_onS Y Y Y Y hI.1 hI.2 ?_))) | (show DL _ _ _ _ _ _ _; first | (refine' Ap Y Y (fun K kk => ?_) ?_; (try (show Go.Ts.T; rotate_left)); (first | (show AOp _ _ ⟨_, .indexAddr _ _ _, _, _, _, _⟩ _ _ _; refine Ak (sz := 4) hG Y Y Y Y Y Y Y (by omega) ?_) | (show AOp _ _ ⟨_, .load _ _, _, _, _, _⟩ _ _ _; first | refine Ab 0 sbT hG Y Y Y Y Y (by omega) Y ?_ | refine Aa 0 sbT hG Y Y Y Y Y (by omega) Y ?_ | refine Ab 1 sbT hG Y Y Y Y Y (by omega) Y ?_ | refine Aa 1 sbT hG Y Y Y Y Y (by omega) Y ?_ | refine Ab 2 sbT hG Y Y Y Y Y (by omega) Y ?_ | refine Aa 2 sbT hG Y Y Y Y Y (by omega) Y ?_ | refine Ab 3 sbT hG Y Y Y Y Y (by omega) Y ?_ | refine Aa 3 sbT hG Y Y Y Y Y (by omega) Y ?_)); exact kk) | refine do2 ?_) | (show AW _ _ _ _ _ _; first | (show AW _ _ (.region _ _ _) _ _ _; refine sc0 ?_; intro O1) | (refine sc1 ?_; try intro Q1)) | (show (_ → _) ∧ _; refine ⟨fun h => ?_, fun h => ?_⟩) | fail)
  refine A5 (X := ByX r) (fun x => [(0, .ptr p 0), (3, .sl 1 .no (((r.take x.i).foldl (stepB l at') []).map bT)), (7, .sl 1 .no (r.map mT)), (8, .int .i64 (r.length : Int)), (9, .int .i64 (x.i : Int))]) (fun x => ⟨arL v l at' p ri m, [], off, none⟩) (fun x => r.length - x.i) ⟨0, Nat.zero_le _⟩ (.cons rfl (.consW rfl (.nil 1) (.cons rfl (.cons rfl (.cons rfl (.nil _)))))) (.refl _) ?_
  rintro ⟨q, hi⟩
  dsimp only
  by_cases hil : q < r.length
  · have hks : (r.take (q + 1)).foldl (stepB l at') [] = stepB l at' ((r.take q).foldl (stepB l at') []) (r.getD q default) := by
      rw [List.take_add_one, List.foldl_append]
      simp [hil, List.getD]
    have hol := foldB_len (at' := at') hb (r.take q) []
    rw [List.length_take, List.length_nil] at hol
    have hid := hlt (r.getD q default) (by simp [List.getD, hil])
    obtain ⟨j, hj, hjl, ht⟩ := hw (r.getD q default) (by simp [List.getD, hil])
    generalize (r.take q).foldl (stepB l at') [] = out at *
    have hst : stepB l at' out (r.getD q default) = putBs (out ++ putI ((r.getD q default : Nat) : Int) 8) (l.getD j default).bs := by
      unfold stepB; rw [hj, Int.toNat_natCast]
    rw [hst] at hks
    have hne : l ≠ [] := by intro h; subst h; simp at hjl
    have hA : arL v l at' p ri m = [(p, .cells [bT v, .aref 4 ri 0 l.length none, .map (some m)]), (m, .map (at'.map kvT)), (ri, .cells (flat (l.map sbT)))] := by
      unfold arL; rw [slT_ne hne, rowOf_ne hne]
    have hrec : recT (l.getD j default) = sT (l.getD j default).bs := by unfold recT; rw [ht]; rfl
    have h1 := (num_Put (x := .sl 1 .no (out.map bT)) (b := out) (v := ((r.getD q default : Nat) : Int)) (n := 8) (Bd _ _) (by omega) (by omega)).pure
    have h4 := putI_le ((r.getD q default : Nat) : Int) 8
    have h5 : (l.getD j default).bs.length ≤ 60000 := hb _ (by simp [List.getD, hjl])
    have h2 := (num_PutBytes (x := .sl 1 .no ((out ++ putI ((r.getD q default : Nat) : Int) 8).map bT)) (y := recT (l.getD j default)) (b := out ++ putI ((r.getD q default : Nat) : Int) 8) (s := (l.getD j default).bs) (Bd _ _) (by rw [hrec]; exact bytesT_s _) (by simp only [List.length_append]; omega) (by omega)).pure
    rw [hA]
    repeat' (first | (show AL _ _ _ _ _ _ _ _; first | (refine Ac Y ?_; (first | (show AOp _ _ ⟨_, .indexAddr _ _ _, _, _, _, _⟩ _ _ _; refine Ak (sz := 4) hG Y Y Y Y Y Y Y (by omega) ?_) | (show AOp _ _ ⟨_, .load _ _, _, _, _, _⟩ _ _ _; first | refine Ab 0 sbT hG Y Y Y Y Y (by omega) Y ?_ | refine Aa 0 sbT hG Y Y Y Y Y (by omega) Y ?_ | refine Ab 1 sbT hG Y Y Y Y Y (by omega) Y ?_ | refine Aa 1 sbT hG Y Y Y Y Y (by omega) Y ?_ | refine Ab 2 sbT hG Y Y Y Y Y (by omega) Y ?_ | refine Aa 2 sbT hG Y Y Y Y Y (by omega) Y ?_ | refine Ab 3 sbT hG Y Y Y Y Y (by omega) Y ?_ | refine Aa 3 sbT hG Y Y Y Y Y (by omega) Y ?_))) | (refine Ac Y ?_; (first | refine r_lookLv (n := 1) hj hG Y Y Y Y Y Y Y Y Y Y ?_ | refine r_lookLv (n := 0) hj hG Y Y Y Y Y Y Y Y Y Y ?_)) | refine so2 ?_ | refine sp Y Y Y Y Y Y (by apply h1 <;> exact sd) ?_ | refine sp Y Y Y Y Y Y (by apply h2 <;> exact sd) ?_) | (show DL _ _ _ _ _ _ _; first | (refine' Ap Y Y (fun K kk => ?_) ?_; (try (show Go.Ts.T; rotate_left)); (first | (show AOp _ _ ⟨_, .indexAddr _ _ _, _, _, _, _⟩ _ _ _; refine Ak (sz := 4) hG Y Y Y Y Y Y Y (by omega) ?_) | (show AOp _ _ ⟨_, .load _ _, _, _, _, _⟩ _ _ _; first | refine Ab 0 sbT hG Y Y Y Y Y (by omega) Y ?_ | refine Aa 0 sbT hG Y Y Y Y Y (by omega) Y ?_ | refine Ab 1 sbT hG Y Y Y Y Y (by omega) Y ?_ | refine Aa 1 sbT hG Y Y Y Y Y (by omega) Y ?_ | refine Ab 2 sbT hG Y Y Y Y Y (by omega) Y ?_ | refine Aa 2 sbT hG Y Y Y Y Y (by omega) Y ?_ | refine Ab 3 sbT hG Y Y Y Y Y (by omega) Y ?_ | refine Aa 3 sbT hG Y Y Y Y Y (by omega) Y ?_)); exact kk) | (refine' Ap Y Y (fun K kk => ?_) ?_; (try (show Go.Ts.T; rotate_left)); (first | refine r_lookLv (n := 1) hj hG Y Y Y Y Y Y Y Y Y Y ?_ | refine r_lookLv (n := 0) hj hG Y Y Y Y Y Y Y Y Y Y ?_); exact kk) | refine do2 ?_ | refine dp Y Y Y Y Y Y Y (by apply h1 <;> exact sd) ?_ | refine dp Y Y Y Y Y Y Y (by apply h2 <;> exact sd) ?_) | (show AW _ _ _ _ _ _; first | (show AW _ _ (.region _ _ _) _ _ _; refine sc0 ?_; intro O1) | (refine sc1 ?_; try intro Q1)) | (show (_ → _) ∧ _; refine ⟨fun h => ?_, fun h => ?_⟩) | fail)
    exact ⟨⟨q + 1, by omega⟩, by dsimp only; omega, .cons rfl (.consW rfl (.eq (by dsimp only; rw [hks])) (.cons rfl (.cons rfl (.cons rfl (.nil _))))), .refl _⟩
  · rw [List.take_of_length_le (by omega)]
    repeat' (first | (show AL _ _ _ _ _ _ _ _; first | (refine Ac Y ?_; (first | (show AOp _ _ ⟨_, .indexAddr _ _ _, _, _, _, _⟩ _ _ _; refine Ak (sz := 4) hG Y Y Y Y Y Y Y (by omega) ?_) | (show AOp _ _ ⟨_, .load _ _, _, _, _, _⟩ _ _ _; first | refine Ab 0 sbT hG Y Y Y Y Y (by omega) Y ?_ | refine Aa 0 sbT hG Y Y Y Y Y (by omega) Y ?_ | refine Ab 1 sbT hG Y Y Y Y Y (by omega) Y ?_ | refine Aa 1 sbT hG Y Y Y Y Y (by omega) Y ?_ | refine Ab 2 sbT hG Y Y Y Y Y (by omega) Y ?_ | refine Aa 2 sbT hG Y Y Y Y Y (by omega) Y ?_ | refine Ab 3 sbT hG Y Y Y Y Y (by omega) Y ?_ | refine Aa 3 sbT hG Y Y Y Y Y (by omega) Y ?_))) | refine so2 ?_) | (show DL _ _ _ _ _ _ _; first | (refine' Ap Y Y (fun K kk => ?_) ?_; (try (show Go.Ts.T; rotate_left)); (first | (show AOp _ _ ⟨_, .indexAddr _ _ _, _, _, _, _⟩ _ _ _; refine Ak (sz := 4) hG Y Y Y Y Y Y Y (by omega) ?_) | (show AOp _ _ ⟨_, .load _ _, _, _, _, _⟩ _ _ _; first | refine Ab 0 sbT hG Y Y Y Y Y (by omega) Y ?_ | refine Aa 0 sbT hG Y Y Y Y Y (by omega) Y ?_ | refine Ab 1 sbT hG Y Y Y Y Y (by omega) Y ?_ | refine Aa 1 sbT hG Y Y Y Y Y (by omega) Y ?_ | refine Ab 2 sbT hG Y Y Y Y Y (by omega) Y ?_ | refine Aa 2 sbT hG Y Y Y Y Y (by omega) Y ?_ | refine Ab 3 sbT hG Y Y Y Y Y (by omega) Y ?_ | refine Aa 3 sbT hG Y Y Y Y Y (by omega) Y ?_)); exact kk) | refine do2 ?_) | (show AW _ _ _ _ _ _; first | (show AW _ _ (.region _ _ _) _ _ _; refine sc0 ?_; intro O1) | (refine sc1 ?_; try intro Q1)) | (show (_ → _) ∧ _; refine ⟨fun h => ?_, fun h => ?_⟩) | fail)
    exact Az (Ae rfl Ag) (.refl _) (.refl _) (.refl _) rfl ⟨rfl, rfl⟩
end Go.Proofs.Ythfgocinlbogeaa
namespace Go.Proofs.Ythfgocinlbogeaa
open Go.Ts
set_option linter.unusedSimpArgs false
set_option linter.unusedVariables false
set_option linter.unnecessarySimpa false
structure WFA (l : List SB) (at' : List (Nat × Int)) : Prop where
  a : ∀ j, j < l.length → (l.getD j default).taken = true → khas at' (l.getD j default).id = true ∧ klook at' (l.getD j default).id = ((j : Nat) : Int)
  b : ∀ id, khas at' id = true → ∃ j : Nat, klook at' id = (j : Int) ∧ j < l.length ∧ (l.getD j default).taken = true ∧ (l.getD j default).id = id
theorem khas_kset (m : List (Nat × Int)) (k : Nat) (v : Int) (k' : Nat) : khas (kset m k v) k' = (decide (k' = k) || khas m k') := by
  have h : ∀ (m : List (Nat × Int)) (k : Nat), khas m k = decide (k ∈ m.map (·.1)) := fun m k => by
    have := khas_iff (k := k) m 0
    unfold khas
    cases h1 : (kfind k m 0).isSome with
    | true => rw [h1] at this; rw [decide_eq_true (this.1 rfl)]
    | false => rw [h1] at this; rw [decide_eq_false (fun h2 => by have := this.2 h2; cases this)]
  rw [h, h, keys_kset]
  split
  · rename_i h1
    by_cases h2 : k' = k
    · subst h2; simp [h1]
    · simp [h2]
  · by_cases h2 : k' = k <;> simp [h2]
theorem getD_set {l : List SB} {j k : Nat} {s : SB} (hk : k < l.length) : (l.set j s).getD k default = if j = k then s else l.getD k default := by
  simp only [List.getD, List.getElem?_set]
  by_cases h : j = k
  · subst h; simp [hk]
  · simp [h]
theorem wfa_nil : WFA [] [] := ⟨fun j hj => by simp at hj, fun id h => by simp [khas, kfind] at h⟩
theorem wfa_old {l : List SB} {at' : List (Nat × Int)} (h : WFA l at') {id j : Nat} (hk : khas at' id = true) (hj : klook at' id = ((j : Nat) : Int)) (s : SB) (hs : s.taken = true ∧ s.id = id) : WFA (l.set j s) at' := by
  obtain ⟨j', h1, h2, h3, h4⟩ := h.b id hk
  obtain rfl : j = j' := by omega
  refine ⟨fun k hk' ht => ?_, fun id' hk' => ?_⟩
  · rw [List.length_set] at hk'
    rw [getD_set hk'] at ht ⊢
    by_cases e : j = k
    · subst e; rw [if_pos rfl] at ht ⊢; rw [hs.2]; exact ⟨hk, hj⟩
    · rw [if_neg e] at ht ⊢; exact h.a k hk' ht
  · obtain ⟨k, g1, g2, g3, g4⟩ := h.b id' hk'
    refine ⟨k, g1, by rw [List.length_set]; exact g2, ?_⟩
    rw [getD_set g2]
    by_cases e : j = k
    · subst e; rw [if_pos rfl]; exact ⟨hs.1, by rw [hs.2, ← h4, g4]⟩
    · rw [if_neg e]; exact ⟨g3, g4⟩
theorem freeI_free : ∀ (l : List SB) (i : Nat), 0 ≤ freeI l i → ∃ k, freeI l i = ((i + k : Nat) : Int) ∧ k < l.length ∧ (l.getD k default).taken = false
  | [], i, h => by simp [freeI] at h
  | s :: l, i, h => by
    rw [freeI] at h ⊢
    split
    · rename_i h1
      rw [if_pos h1] at h
      obtain ⟨k, g1, g2, g3⟩ := freeI_free l (i + 1) h
      exact ⟨k + 1, by rw [g1]; omega, by simpa using g2, by simpa [List.getD] using g3⟩
    · rename_i h1
      exact ⟨0, by simp, by simp, by simpa [List.getD] using h1⟩
theorem flS_spec (l : List SB) : ((flS l).getD (fidx l) default).taken = false ∧ (∀ k, k < (flS l).length → k ≠ fidx l → k < l.length ∧ (flS l).getD k default = l.getD k default) ∧ (∀ k, k < l.length → k < (flS l).length ∧ (flS l).getD k default = l.getD k default) := by
  unfold flS fidx
  by_cases h : freeI l 0 < 0
  · rw [if_pos h, if_pos h]
    refine ⟨by simp [List.getD, show (default : SB).taken = false from rfl], fun k hk hne => ?_, fun k hk => ?_⟩
    · rw [List.length_append, List.length_singleton] at hk
      have : k < l.length := by omega
      exact ⟨this, by simp only [List.getD]; rw [List.getElem?_append_left this]⟩
    · exact ⟨by rw [List.length_append]; omega, by simp only [List.getD]; rw [List.getElem?_append_left hk]⟩
  · rw [if_neg h, if_neg h]
    obtain ⟨k, g1, g2, g3⟩ := freeI_free l 0 (by omega)
    have e : (freeI l 0).toNat = k := by omega
    rw [e]
    exact ⟨g3, fun k hk _ => ⟨hk, rfl⟩, fun k hk => ⟨hk, rfl⟩⟩
theorem wfa_new {l : List SB} {at' : List (Nat × Int)} (h : WFA l at') {id : Nat} (hk : khas at' id = false) (s : SB) (hs : s.taken = true ∧ s.id = id) : WFA ((flS l).set (fidx l) s) (kset at' id ((fidx l : Nat) : Int)) := by
  obtain ⟨s1, s2, s3⟩ := flS_spec l
  have hlt := (fidx_lt l).1
  refine ⟨fun k hk' ht => ?_, fun id' hk' => ?_⟩
  · rw [List.length_set] at hk'
    rw [getD_set hk'] at ht ⊢
    rw [khas_kset, klook_kset]
    by_cases e : fidx l = k
    · subst e; rw [if_pos rfl] at ht ⊢; rw [hs.2]; simp
    · rw [if_neg e] at ht ⊢
      obtain ⟨g1, g2⟩ := s2 k hk' (Ne.symm e)
      rw [g2] at ht ⊢
      obtain ⟨g3, g4⟩ := h.a k g1 ht
      have g5 : (l.getD k default).id ≠ id := by rintro g5; rw [g5, hk] at g3; cases g3
      rw [if_neg g5, g3, g4]; simp
  · rw [khas_kset] at hk'
    rw [klook_kset]
    by_cases e : id' = id
    · subst e
      rw [if_pos rfl]
      exact ⟨fidx l, rfl, by rw [List.length_set]; exact hlt, by rw [getD_set hlt, if_pos rfl]; exact hs⟩
    · rw [if_neg e]
      rw [decide_eq_false e, Bool.false_or] at hk'
      obtain ⟨k, g1, g2, g3, g4⟩ := h.b id' hk'
      obtain ⟨g5, g6⟩ := s3 k g2
      refine ⟨k, g1, by rw [List.length_set]; exact g5, ?_⟩
      rw [getD_set g5]
      by_cases e2 : fidx l = k
      · rw [← e2] at g6 g3; rw [← g6, s1] at g3; cases g3
      · rw [if_neg e2, g6]; exact ⟨g3, g4⟩
def recA (l : List SB) (at' : List (Nat × Int)) (id : Nat) : List UInt8 := (l.getD (klook at' id).toNat default).bs
theorem names_mem {l : List SB} {at' : List (Nat × Int)} (h : WFA l at') (id : Nat) : id ∈ namesOf l ↔ khas at' id = true := by
  unfold namesOf
  rw [List.mem_map]
  constructor
  · rintro ⟨s, hs, rfl⟩
    obtain ⟨h1, h2⟩ := List.mem_filter.1 hs
    obtain ⟨j, hj, rfl⟩ := List.mem_iff_getElem.1 h1
    have := h.a j hj (by simpa [List.getD, hj] using h2)
    simpa [List.getD, hj] using this.1
  · intro hk
    obtain ⟨j, g1, g2, g3, g4⟩ := h.b id hk
    refine ⟨l.getD j default, List.mem_filter.2 ⟨by simp [List.getD, g2], g3⟩, g4⟩
theorem names_nodup {l : List SB} {at' : List (Nat × Int)} (h : WFA l at') : (namesOf l).Nodup := by
  have : ∀ n, n ≤ l.length → (namesOf (l.take n)).Nodup := by
    intro n
    induction n with
    | zero => intro _; simp [namesOf]
    | succ n ih =>
      intro hn
      rw [names_succ (by omega)]
      cases ht : (l.getD n default).taken with
      | false => simpa using ih (by omega)
      | true =>
        rw [if_pos rfl]
        refine List.nodup_append.2 ⟨ih (by omega), by simp, fun a ha b hb => ?_⟩
        simp only [List.mem_singleton] at hb; subst hb
        rintro rfl
        unfold namesOf at ha
        obtain ⟨s, hs, he⟩ := List.mem_map.1 ha
        obtain ⟨h1, h2⟩ := List.mem_filter.1 hs
        obtain ⟨j, hj, rfl⟩ := List.mem_iff_getElem.1 h1
        rw [List.length_take] at hj
        rw [List.getElem_take] at he h2
        have g1 := h.a n (by omega) ht
        have g2 := h.a j (by omega) (by simpa [List.getD, show j < l.length by omega] using h2)
        have e : (l.getD j default).id = (l.getD n default).id := by rw [← he]; simp [List.getD, show j < l.length by omega]
        rw [e, g1.2] at g2
        have := g2.2
        omega
  simpa using this l.length (Nat.le_refl _)
theorem ids_up {l : List SB} {at' : List (Nat × Int)} (h : WFA l at') : (idsA l).Pairwise (· < ·) := srtL_up (names_nodup h)
theorem ids_mem {l : List SB} {at' : List (Nat × Int)} (h : WFA l at') (id : Nat) : id ∈ idsA l ↔ khas at' id = true := by
  unfold idsA; rw [(srtL_spec _).1.mem_iff, names_mem h]
theorem ids_where {l : List SB} {at' : List (Nat × Int)} (h : WFA l at') : ∀ id ∈ idsA l, ∃ j : Nat, klook at' id = (j : Int) ∧ j < l.length ∧ (l.getD j default).taken = true := fun id hid => by
  obtain ⟨j, g1, g2, g3, _⟩ := h.b id ((ids_mem h id).1 hid)
  exact ⟨j, g1, g2, g3⟩
theorem rec_old {l : List SB} {at' : List (Nat × Int)} (h : WFA l at') {id j : Nat} (hk : khas at' id = true) (hj : klook at' id = ((j : Nat) : Int)) (s : SB) (id' : Nat) (hk' : khas at' id' = true) : recA (l.set j s) at' id' = if id' = id then s.bs else recA l at' id' := by
  obtain ⟨k, g1, g2, g3, g4⟩ := h.b id' hk'
  obtain ⟨k0, f1, f2, f3, f4⟩ := h.b id hk
  unfold recA
  rw [g1, Int.toNat_natCast, getD_set g2]
  by_cases e : id' = id
  · subst e; rw [if_pos rfl, if_pos (by omega)]
  · rw [if_neg e, if_neg]
    rintro rfl
    have : k0 = j := by omega
    subst this
    exact e (by rw [← g4, f4])
theorem rec_new {l : List SB} {at' : List (Nat × Int)} (h : WFA l at') {id : Nat} (hk : khas at' id = false) (s : SB) (id' : Nat) (hk' : khas at' id' = true ∨ id' = id) : recA ((flS l).set (fidx l) s) (kset at' id ((fidx l : Nat) : Int)) id' = if id' = id then s.bs else recA l at' id' := by
  obtain ⟨s1, s2, s3⟩ := flS_spec l
  have hlt := (fidx_lt l).1
  unfold recA
  rw [klook_kset]
  by_cases e : id' = id
  · rw [if_pos e, if_pos e, Int.toNat_natCast, getD_set hlt, if_pos rfl]
  · rw [if_neg e, if_neg e]
    have hk2 : khas at' id' = true := hk'.resolve_right e
    obtain ⟨k, g1, g2, g3, g4⟩ := h.b id' hk2
    obtain ⟨g5, g6⟩ := s3 k g2
    rw [g1, Int.toNat_natCast, getD_set g5, if_neg, g6]
    rintro rfl
    rw [← g6, s1] at g3; cases g3
end Go.Proofs.Ythfgocinlbogeaa
namespace Go.Ts
set_option linter.unusedSimpArgs false
set_option linter.unusedVariables false
section
variable {G : Nat → Option TI}
theorem wf_u8 {n : Int} (h : (Lit.int .u8 n).wf = true) : 0 ≤ n ∧ n < 256 := by
  simp only [Lit.wf, IntKind.min, IntKind.max, IntKind.bits, IntKind.signed, Bool.and_eq_true] at h; simp at h; omega
theorem wf_u64 {n : Int} (h : (Lit.int .u64 n).wf = true) : 0 ≤ n ∧ n < 18446744073709551616 := by
  simp only [Lit.wf, IntKind.min, IntKind.max, IntKind.bits, IntKind.signed, Bool.and_eq_true] at h; simp at h; omega
theorem wf_i64 {n : Int} (h : (Lit.int .i64 n).wf = true) : -9223372036854775808 ≤ n ∧ n ≤ 9223372036854775807 := by
  simp only [Lit.wf, IntKind.min, IntKind.max, IntKind.bits, IntKind.signed, Bool.and_eq_true] at h; simp at h; omega
theorem argTy_cells {n t : Nat} {x : T} {ti : TI} (h : ArgTy G n t x) (ht : G t = some ti) (hd : ti.d.agg = false) : Ty G n t [x] := by
  have h1 := h.1
  rwa [(h.2 _ ht).2 hd] at h1
theorem ty_slice {n t e : Nat} {cs : List T} {ti : TI} (h : Ty G (n + 1) t cs) (ht : G t = some ti) (htd : ti.d = .slice e) :
    ∃ xs, cs = [.sl ((sizeT G e).getD 0) .no xs] ∧ xs.length ≤ bigLen ∧ ∀ y ∈ xs, Ty G n e y.cells ∧ AggOK G e y := by
  simpa only [Ty, ht, htd] using h
theorem bytes_of_ty {n e : Nat} {ie : TI} (he : G e = some ie) (hed : ie.d = .int .u8) : ∀ (xs : List T), (∀ y ∈ xs, Ty G (n + 1) e y.cells ∧ AggOK G e y) → ∃ b : List UInt8, xs = b.map bT
  | [], _ => ⟨[], rfl⟩
  | x :: xs, h => by
    obtain ⟨b, hb⟩ := bytes_of_ty he hed xs (fun y hy => h y (List.mem_cons_of_mem _ hy))
    obtain ⟨h1, h2⟩ := h x List.mem_cons_self
    simp only [Ty, he, hed] at h1
    obtain ⟨v, hv, hw⟩ := h1
    obtain ⟨l, u⟩ := wf_u8 hw
    refine ⟨UInt8.ofNat v.toNat :: b, ?_⟩
    have : x = .int .u8 v := by
      have h5 := (h2 _ he).2 (by rw [hed]; rfl)
      rw [h5] at hv; injection hv
    subst this
    rw [hb, List.map_cons]
    congr 1
    unfold bT
    have : (UInt8.ofNat v.toNat).toNat = v.toNat := by simp [UInt8.toNat_ofNat]; omega
    rw [this]; congr 1; omega
theorem ty_bytes {n t e : Nat} {cs : List T} {ti ie : TI} (h : Ty G (n + 2) t cs) (ht : G t = some ti) (htd : ti.d = .slice e) (he : G e = some ie) (hed : ie.d = .int .u8) (hs : ie.size = 1) : ∃ b : List UInt8, cs = [sT b] ∧ b.length ≤ bigLen := by
  obtain ⟨xs, h1, h2, h3⟩ := ty_slice h ht htd
  obtain ⟨b, rfl⟩ := bytes_of_ty he hed xs h3
  exact ⟨b, by rw [h1]; simp [sizeT, he, hs, sT], by simpa using h2⟩
theorem argTy_struct {n t : Nat} {x : T} {ti : TI} {fs : List (Nat × Nat)} (h : ArgTy G (n + 1) t x) (ht : G t = some ti) (htd : ti.d = .struct fs) : ∃ cs, x = .agg cs ∧ TyFs (Ty G n) fs cs := by
  obtain ⟨c, rfl⟩ := (h.2 _ ht).1 (by rw [htd]; rfl)
  refine ⟨c, rfl, ?_⟩
  have h1 := h.1
  simpa only [Ty, ht, htd, T.cells] using h1
end
end Go.Ts
set_option maxHeartbeats 4000000
namespace Go.Ts
section
variable {P : Program} {G : Nat → Option TI} {N : Nat} {σ : St} {a : Env} {K : Env → St → Prop} {d : Tmp} {ty : TypeId} {pos : String} {af : Array Edge} {gd : Option (Nat × Bool)}
theorem OnL.weak {g : FuncId} {ts us : List T} {L0 : List (Nat × Ob)} {R : T → List (Nat × Ob) → Prop} (h : OnL P g us L0 R) (hw : WkL ts us) : OnL P g ts L0 R := fun off => (h off).weakL hw
theorem r_onL0 {f : Operand} {args : Array Operand} {tys : Array TypeId} {g : FuncId} {ts : List T} {L0 : List (Nat × Ob)} {R : T → List (Nat × Ob) → Prop}
    (hf : Ad a f = some (.fn (.func g) [])) (ha : argsT a args.toList = some ts) (hd : Ai N (some d) = true) (hnx : σ.nx = none) (hL : σ.L = L0) (h : OnL P g ts L0 R)
    (k : ∀ u L', R u L' → K (put a (some d) u) { σ with L := L' }) : AOp P N ⟨some d, .call ⟨.value f, args, tys⟩, ty, pos, af, gd⟩ a σ K := by
  refine r_onL hf ha hd hnx (Lf := []) (by rw [hL, List.append_nil]) h ?_
  intro u L' hR
  rw [List.append_nil]; exact k u L' hR
end
end Go.Ts
namespace Go.Proofs.Ythfgocinlbogeaa
open Go.Ts
set_option linter.unusedSimpArgs false
set_option linter.unusedVariables false
set_option linter.unnecessarySimpa false
attribute [local irreducible] Go.Ts.AW Go.Ts.AOps Go.Ts.AL Go.Ts.AOp Go.Ts.ACalls Go.Ts.DL Go.Ts.DQ0 Go.Ts.EL
theorem same_p (v : UInt8) (l : List SB) (at' : List (Nat × Int)) (p ri m : Nat) : (arL v l at' p ri m).Perm (arL v l at' p ri m ++ []) := List.Perm.of_eq (List.append_nil _).symm
abbrev bg1 : List SB := (flS []).set (fidx []) (bump ((flS []).getD (fidx []) default) 5 (by decide) [1, 9])
abbrev bg2 : List (Nat × Int) := kset [] 5 ((fidx [] : Nat) : Int)
theorem arena_begun : Ts.Pure Try.prog 30 [] (.bool true) := by
  intro off
  refine Af (N := 50) (rs := [.tmp 0]) hG Try.func30 rfl rfl rfl rfl rfl ?_
  repeat' (first | (show AL _ _ _ _ _ _ _ _; first | (refine Ac Y ?_; (first | (show AOp _ _ ⟨_, .indexAddr _ _ _, _, _, _, _⟩ _ _ _; refine Ak (sz := 4) hG Y Y Y Y Y Y Y (by omega) ?_) | (show AOp _ _ ⟨_, .load _ _, _, _, _, _⟩ _ _ _; first | refine Ab 0 sbT hG Y Y Y Y Y (by omega) Y ?_ | refine Aa 0 sbT hG Y Y Y Y Y (by omega) Y ?_ | refine Ab 1 sbT hG Y Y Y Y Y (by omega) Y ?_ | refine Aa 1 sbT hG Y Y Y Y Y (by omega) Y ?_ | refine Ab 2 sbT hG Y Y Y Y Y (by omega) Y ?_ | refine Aa 2 sbT hG Y Y Y Y Y (by omega) Y ?_ | refine Ab 3 sbT hG Y Y Y Y Y (by omega) Y ?_ | refine Aa 3 sbT hG Y Y Y Y Y (by omega) Y ?_))) | refine so2 ?_) | (show AW _ _ _ _ _ _; first | (show AW _ _ (.region _ _ _) _ _ _; refine sc0 ?_; intro O1) | (refine sc1 ?_; try intro Q1)) | (show (_ → _) ∧ _; refine ⟨fun h => ?_, fun h => ?_⟩) | fail)
  refine Ac rfl (r_onL0 rfl rfl rfl rfl rfl (arena_New 1) ?_)
  rintro u L' ⟨p, m, rfl, rfl⟩
  repeat' (first | (show AL _ _ _ _ _ _ _ _; first | (refine Ac Y ?_; (first | (show AOp _ _ ⟨_, .indexAddr _ _ _, _, _, _, _⟩ _ _ _; refine Ak (sz := 4) hG Y Y Y Y Y Y Y (by omega) ?_) | (show AOp _ _ ⟨_, .load _ _, _, _, _, _⟩ _ _ _; first | refine Ab 0 sbT hG Y Y Y Y Y (by omega) Y ?_ | refine Aa 0 sbT hG Y Y Y Y Y (by omega) Y ?_ | refine Ab 1 sbT hG Y Y Y Y Y (by omega) Y ?_ | refine Aa 1 sbT hG Y Y Y Y Y (by omega) Y ?_ | refine Ab 2 sbT hG Y Y Y Y Y (by omega) Y ?_ | refine Aa 2 sbT hG Y Y Y Y Y (by omega) Y ?_ | refine Ab 3 sbT hG Y Y Y Y Y (by omega) Y ?_ | refine Aa 3 sbT hG Y Y Y Y Y (by omega) Y ?_))) | refine so2 ?_) | (show AW _ _ _ _ _ _; first | (show AW _ _ (.region _ _ _) _ _ _; refine sc0 ?_; intro O1) | (refine sc1 ?_; try intro Q1)) | (show (_ → _) ∧ _; refine ⟨fun h => ?_, fun h => ?_⟩) | fail)
  refine Ac rfl (r_onL0 rfl rfl rfl rfl rfl ((arena_Put_new 1 [] [] (id := 5) (b := [1, 9]) (by decide) (by decide) (by decide) (by decide) (by decide) p 0 m).weak (wk3 (.refl _) (.refl _) (.own _ _ _))) ?_)
  rintro u L' ⟨ri, rfl, rfl⟩
  have h1 := And.intro ((arena_Put_no 1 bg1 bg2 (id := 5) (b := [2]) (by decide) (by decide) p ri m).weak (wk3 (.refl _) (.refl _) (.own 1 .full _))) (same_p 1 bg1 bg2 p ri m)
  have h2 := And.intro (arena_Get_is 1 bg1 bg2 (id := 5) (j := 0) (by decide) (by decide) (by decide) (by decide) (by decide) p ri m) (same_p 1 bg1 bg2 p ri m)
  have h3 := And.intro (arena_Size 1 bg1 bg2 (by decide) (by decide) p ri m) (same_p 1 bg1 bg2 p ri m)
  have h4 := And.intro (arena_IDs 1 bg1 bg2 (by decide) p ri m) (same_p 1 bg1 bg2 p ri m)
  have e5 : idsA bg1 = [5] := by unfold idsA; rw [srtL_isort]; decide
  have e6 : bytesA bg1 bg2 = [0, 0, 0, 0, 0, 0, 0, 5, 0, 2, 1, 9] := by unfold bytesA; rw [e5]; decide
  have h5 := And.intro (arena_Bytes 1 bg1 bg2 (by decide) (by decide) (by rw [e5]; intro id hid; obtain rfl : id = 5 := (by simpa using hid); exact ⟨0, by decide, by decide, by decide⟩) p ri m) (same_p 1 bg1 bg2 p ri m)
  rw [e5] at h4
  rw [e6] at h5
  have n1 : ([5] : List Nat).length = 1 := rfl
  have n2 : sizeA bg1 = 2 := by decide
  rw [n2] at h3
  have n3 : ((bg1.getD 0 default).bs).length = 2 := rfl
  have n4 : ([0, 0, 0, 0, 0, 0, 0, 5, 0, 2, 1, 9] : List UInt8).length = 12 := rfl
  repeat' (first | (show AL _ _ _ _ _ _ _ _; first | (refine Ac Y ?_; (first | (show AOp _ _ ⟨_, .indexAddr _ _ _, _, _, _, _⟩ _ _ _; refine Ak (sz := 4) hG Y Y Y Y Y Y Y (by omega) ?_) | (show AOp _ _ ⟨_, .load _ _, _, _, _, _⟩ _ _ _; first | refine Ab 0 sbT hG Y Y Y Y Y (by omega) Y ?_ | refine Aa 0 sbT hG Y Y Y Y Y (by omega) Y ?_ | refine Ab 1 sbT hG Y Y Y Y Y (by omega) Y ?_ | refine Aa 1 sbT hG Y Y Y Y Y (by omega) Y ?_ | refine Ab 2 sbT hG Y Y Y Y Y (by omega) Y ?_ | refine Aa 2 sbT hG Y Y Y Y Y (by omega) Y ?_ | refine Ab 3 sbT hG Y Y Y Y Y (by omega) Y ?_ | refine Aa 3 sbT hG Y Y Y Y Y (by omega) Y ?_))) | refine so2 ?_ | (refine Ac Y (r_onS Y Y Y Y h1.1 h1.2 ?_)) | (refine Ac Y (r_onS Y Y Y Y h2.1 h2.2 ?_)) | (refine Ac Y (r_onS Y Y Y Y h3.1 h3.2 ?_)) | (refine Ac Y (r_onS Y Y Y Y h4.1 h4.2 ?_)) | (refine Ac Y (r_onS Y Y Y Y h5.1 h5.2 ?_))) | (show AW _ _ _ _ _ _; first | (show AW _ _ (.region _ _ _) _ _ _; refine sc0 ?_; intro O1) | (refine sc1 ?_; try intro Q1)) | (show (_ → _) ∧ _; refine ⟨fun h => ?_, fun h => ?_⟩) | fail)
  exact Bj (Ae rfl Ag) (.refl _) rfl
end Go.Proofs.Ythfgocinlbogeaa
namespace Go.Proofs.Ythfgocinlbogeaa
open Go.Ts
set_option linter.unusedSimpArgs false
set_option linter.unusedVariables false
set_option linter.unnecessarySimpa false
attribute [local irreducible] Go.Ts.AW Go.Ts.AOps Go.Ts.AL Go.Ts.AOp Go.Ts.ACalls Go.Ts.DL Go.Ts.DQ0 Go.Ts.EL
def putL (l : List SB) (at' : List (Nat × Int)) (id : Nat) (hid : id < 18446744073709551616) (b : List UInt8) : List SB :=
  if khas at' id = true then l.set (klook at' id).toNat (bump (l.getD (klook at' id).toNat default) id hid b) else (flS l).set (fidx l) (bump ((flS l).getD (fidx l) default) id hid b)
def putA (l : List SB) (at' : List (Nat × Int)) (id : Nat) : List (Nat × Int) := if khas at' id = true then at' else kset at' id ((fidx l : Nat) : Int)
theorem arena_Put_ok (v : UInt8) (l : List SB) (at' : List (Nat × Int)) (hw : WFA l at') {id : Nat} {b : List UInt8} (hid : id < 18446744073709551616) (hb : b.length ≤ 4294967296) (h : putsB v b = true) (hl : l.length ≤ 999999) (p ri m : Nat) :
    OnL Try.prog 32 [.ptr p 0, .int .u64 (id : Int), sT b] (arL v l at' p ri m) (fun u L => ∃ i', u = .int .i64 0 ∧ L = arL v (putL l at' id hid b) (putA l at' id) p i' m) := by
  unfold putL putA
  cases hk : khas at' id with
  | true =>
    obtain ⟨j, g1, g2, g3, g4⟩ := hw.b id hk
    rw [if_pos rfl, if_pos rfl, g1, Int.toNat_natCast]
    exact fun off => (arena_Put_old v l at' hid hb h hk g1 g2 (by omega) p ri m off).mono fun u σ' ⟨L', ⟨h1, h2⟩, h3⟩ => ⟨L', ⟨ri, h1, h2⟩, h3⟩
  | false =>
    rw [if_neg (by decide), if_neg (by decide)]
    exact arena_Put_new v l at' hid hb h hk hl p ri m
theorem put_wfa {l : List SB} {at' : List (Nat × Int)} (hw : WFA l at') (id : Nat) (hid : id < 18446744073709551616) (b : List UInt8) : WFA (putL l at' id hid b) (putA l at' id) := by
  unfold putL putA
  cases hk : khas at' id with
  | true =>
    obtain ⟨j, g1, g2, g3, g4⟩ := hw.b id hk
    rw [if_pos rfl, if_pos rfl, g1, Int.toNat_natCast]
    exact wfa_old hw hk g1 _ ⟨rfl, rfl⟩
  | false =>
    rw [if_neg (by decide), if_neg (by decide)]
    exact wfa_new hw hk _ ⟨rfl, rfl⟩
theorem put_has {l : List SB} {at' : List (Nat × Int)} (id id' : Nat) : khas (putA l at' id) id' = (decide (id' = id) || khas at' id') := by
  unfold putA
  cases hk : khas at' id with
  | true =>
    rw [if_pos rfl]
    by_cases e : id' = id
    · subst e; simp [hk]
    · simp [e]
  | false => rw [if_neg (by decide), khas_kset]
theorem put_rec {l : List SB} {at' : List (Nat × Int)} (hw : WFA l at') (id : Nat) (hid : id < 18446744073709551616) (b : List UInt8) (id' : Nat) (h : khas at' id' = true ∨ id' = id) : recA (putL l at' id hid b) (putA l at' id) id' = if id' = id then b else recA l at' id' := by
  unfold putL putA
  cases hk : khas at' id with
  | true =>
    obtain ⟨j, g1, g2, g3, g4⟩ := hw.b id hk
    rw [if_pos rfl, if_pos rfl, g1, Int.toNat_natCast]
    exact rec_old hw hk g1 _ id' (h.elim (fun h => h) (fun h => h ▸ hk))
  | false =>
    rw [if_neg (by decide), if_neg (by decide)]
    exact rec_new hw hk _ id' h
theorem put_len {l : List SB} {at' : List (Nat × Int)} (id : Nat) (hid : id < 18446744073709551616) (b : List UInt8) : (putL l at' id hid b).length ≤ l.length + 1 := by
  unfold putL
  split
  · rw [List.length_set]; omega
  · rw [List.length_set]; exact (fidx_lt l).2
theorem put_all {l : List SB} {at' : List (Nat × Int)} (P : SB → Prop) (id : Nat) (hid : id < 18446744073709551616) (b : List UInt8) (h0 : P default) (h1 : ∀ s, P (bump s id hid b)) (h : ∀ s ∈ l, P s) : ∀ s ∈ putL l at' id hid b, P s := by
  unfold putL
  intro s hs
  split at hs
  · rcases List.mem_or_eq_of_mem_set hs with h2 | h2
    · exact h s h2
    · rw [h2]; exact h1 _
  · rcases List.mem_or_eq_of_mem_set hs with h2 | h2
    · unfold flS at h2
      split at h2
      · rcases List.mem_append.1 h2 with h3 | h3
        · exact h s h3
        · rw [List.mem_singleton.1 h3]; exact h0
      · exact h s h2
    · rw [h2]; exact h1 _
end Go.Proofs.Ythfgocinlbogeaa
set_option linter.unusedSimpArgs false
set_option linter.unusedVariables false
namespace Go.Ts
section
variable {P : Program} {G : Nat → Option TI} {N : Nat} {σ : St} {a : Env} {K : Env → St → Prop} {d : Tmp} {dd : Option Tmp} {ty : TypeId} {pos : String} {af : Array Edge} {gd : Option (Nat × Bool)} {α : Type}
def gT (f : α → T) (p : Nat × α) : T × T := (.int .u64 (p.1 : Int), f p.2)
def gfind (k : Nat) : List (Nat × α) → Option (Nat × α)
  | [] => none
  | p :: m => if k = p.1 then some (0, p.2) else (gfind k m).map fun x => (x.1 + 1, x.2)
def glook : List (Nat × α) → Nat → Option α
  | [], _ => none
  | p :: m, k => if k = p.1 then some p.2 else glook m k
def gdel : List (Nat × α) → Nat → List (Nat × α)
  | [], _ => []
  | p :: m, k => if k = p.1 then m else p :: gdel m k
theorem findX_g (f : α → T) (k : Nat) : ∀ (m : List (Nat × α)) (i : Nat), findX .u64 (k : Int) (m.map (gT f)) i = some ((gfind k m).map fun p => (p.1 + i, f p.2))
  | [], i => rfl
  | p :: m, i => by
    have ih := findX_g f k m (i + 1)
    simp only [List.map_cons, gT, findX, decide_true, cond_true, gfind]
    by_cases h : k = p.1
    · have h2 : ((k : Nat) : Int) = ((p.1 : Nat) : Int) := by omega
      rw [if_pos h, decide_eq_true h2]; simp
    · have h2 : ¬ ((k : Nat) : Int) = ((p.1 : Nat) : Int) := by omega
      rw [if_neg h, decide_eq_false h2]
      refine ih.trans ?_
      cases gfind k m <;> simp; omega
theorem gfind_look (k : Nat) : ∀ (m : List (Nat × α)), (gfind k m).map (·.2) = glook m k
  | [] => rfl
  | p :: m => by
    rw [gfind, glook]
    split
    · rfl
    · rw [← gfind_look k m]; cases gfind k m <;> rfl
theorem mapDel_g (f : α → T) (k : Nat) : ∀ (m : List (Nat × α)), mapDel (m.map (gT f)) ((gfind k m).map fun p => (p.1 + 0, f p.2)) = (gdel m k).map (gT f)
  | [] => rfl
  | p :: m => by
    have ih := mapDel_g f k m
    rw [gfind, gdel]
    by_cases h : k = p.1
    · rw [if_pos h, if_pos h]; simp [mapDel]
    · rw [if_neg h, if_neg h, List.map_cons, List.map_cons, ← ih]
      cases gfind k m <;> simp [mapDel]
theorem glook_mem {m : List (Nat × α)} {k : Nat} : (glook m k).isSome = true ↔ k ∈ m.map (·.1) := by
  induction m with
  | nil => simp [glook]
  | cons p m ih =>
    rw [glook]
    by_cases h : k = p.1
    · simp [h]
    · rw [if_neg h, ih]; simp [h]
theorem glook_none {m : List (Nat × α)} {k : Nat} (h : k ∉ m.map (·.1)) : glook m k = none := by
  cases e : glook m k with
  | none => rfl
  | some v => exact absurd (glook_mem.1 (by rw [e]; rfl)) h
theorem keys_gdel (m : List (Nat × α)) (k : Nat) : ((gdel m k).map (·.1)).Sublist (m.map (·.1)) := by
  induction m with
  | nil => exact .slnil
  | cons p m ih =>
    rw [gdel]
    split
    · exact List.sublist_cons_self _ _
    · exact ih.cons_cons _
theorem glook_gdel {m : List (Nat × α)} {k : Nat} (hn : (m.map (·.1)).Nodup) (k' : Nat) : glook (gdel m k) k' = if k' = k then none else glook m k' := by
  induction m with
  | nil => simp [gdel, glook]
  | cons p m ih =>
    rw [List.map_cons, List.nodup_cons] at hn
    rw [gdel]
    by_cases h : k = p.1
    · rw [if_pos h, glook]
      by_cases h2 : k' = k
      · rw [if_pos h2, h2, h]; exact glook_none hn.1
      · rw [if_neg h2, if_neg (by rw [← h]; exact h2)]
    · rw [if_neg h, glook, glook, ih hn.2]
      by_cases h2 : k' = p.1
      · rw [if_pos h2, if_pos h2, if_neg (by rw [h2]; exact fun h3 => h h3.symm)]
      · rw [if_neg h2, if_neg h2]
theorem r_delG (f : α → T) (n : Nat) {t t2 kt et : TypeId} {mo x : Operand} {ti tk : TI} {k i : Nat} {m : List (Nat × α)} (hG : Fits P G) (hm : Ad a mo = some (.map (some i))) (hx : Ad a x = some (.int .u64 ((k : Nat) : Int))) (hob : σ.L[n]? = some (i, .map (m.map (gT f))))
    (ht : G t = some ti) (htd : ti.d = .map kt et) (hk : G kt = some tk) (hkd : tk.d = .int .u64) (hd : Ai N dd = true) (kk : K (put a dd (.tup [])) (σ.set n i (.map ((gdel m k).map (gT f))))) : AOp P N ⟨dd, .call ⟨.builtin .delete, #[mo, x], #[t, t2]⟩, ty, pos, af, gd⟩ a σ K := by
  refine aop_delete hG rfl ht htd hk hkd hm hx hob (findX_g f k m 0) hd ?_
  rw [mapDel_g]; exact kk
theorem kv_g : ∀ (m : List (Nat × Int)), m.map kvT = m.map (gT (.int .i64)) := fun m => rfl
theorem kfind_g (k : Nat) : ∀ (m : List (Nat × Int)) (i : Nat), kfind k m i = (gfind k m).map fun p => (p.1 + i, p.2)
  | [], i => rfl
  | p :: m, i => by
    rw [kfind, gfind]
    split
    · simp
    · rw [kfind_g k m (i + 1)]; cases gfind k m <;> simp; omega
theorem khas_g (m : List (Nat × Int)) (k : Nat) : khas m k = (glook m k).isSome := by
  unfold khas; rw [kfind_g, Option.isSome_map, ← gfind_look, Option.isSome_map]
theorem klook_g (m : List (Nat × Int)) (k : Nat) : klook m k = (glook m k).getD 0 := by
  unfold klook; rw [kfind_g, ← gfind_look]; cases gfind k m <;> rfl
end
end Go.Ts
set_option linter.unusedSimpArgs false
set_option linter.unusedVariables false
namespace Go.Ts
section
variable {P : Program} {G : Nat → Option TI} {N : Nat} {σ : St} {a : Env} {K : Env → St → Prop} {d : Tmp} {dd : Option Tmp} {ty : TypeId} {pos : String} {af : Array Edge} {gd : Option (Nat × Bool)} {α : Type} {Q : Exit → Env → St → Prop}
inductive Has : List (Nat × Ob) → Nat → Ob → Prop
  | here {l : List (Nat × Ob)} {i : Nat} {o : Ob} : Has ((i, o) :: l) i o
  | there {l : List (Nat × Ob)} {i : Nat} {o : Ob} {x : Nat × Ob} : Has l i o → Has (x :: l) i o
inductive Upd : List (Nat × Ob) → Nat → Ob → Ob → List (Nat × Ob) → Prop
  | here {l : List (Nat × Ob)} {i : Nat} {o o' : Ob} : Upd ((i, o) :: l) i o o' ((i, o') :: l)
  | there {l l' : List (Nat × Ob)} {i : Nat} {o o' : Ob} {x : Nat × Ob} : Upd l i o o' l' → Upd (x :: l) i o o' (x :: l')
inductive Pk1 : List (Nat × Ob) → Nat × Ob → List (Nat × Ob) → Prop
  | here {l : List (Nat × Ob)} {x : Nat × Ob} : Pk1 (x :: l) x l
  | there {l l' : List (Nat × Ob)} {x y : Nat × Ob} : Pk1 l x l' → Pk1 (y :: l) x (y :: l')
inductive Pk : List (Nat × Ob) → List (Nat × Ob) → List (Nat × Ob) → Prop
  | nil {l : List (Nat × Ob)} : Pk l [] l
  | cons {l l1 l2 xs : List (Nat × Ob)} {x : Nat × Ob} : Pk1 l x l1 → Pk l1 xs l2 → Pk l (x :: xs) l2
theorem Has.get {l : List (Nat × Ob)} {i : Nat} {o : Ob} (h : Has l i o) : ∃ n : Nat, l[n]? = some (i, o) := by
  induction h with
  | here => exact ⟨0, rfl⟩
  | there _ ih => obtain ⟨n, h⟩ := ih; exact ⟨n + 1, h⟩
theorem Upd.get {l l' : List (Nat × Ob)} {i : Nat} {o o' : Ob} (h : Upd l i o o' l') : ∃ n : Nat, l[n]? = some (i, o) ∧ l.set n (i, o') = l' := by
  induction h with
  | here => exact ⟨0, rfl, rfl⟩
  | there _ ih => obtain ⟨n, h, e⟩ := ih; exact ⟨n + 1, h, by rw [List.set_cons_succ, e]⟩
theorem Pk1.perm {l l' : List (Nat × Ob)} {x : Nat × Ob} (h : Pk1 l x l') : l.Perm (x :: l') := by
  induction h with
  | here => exact .refl _
  | there _ ih => exact (ih.cons _).trans (.swap _ _ _)
theorem Pk.perm {l xs l' : List (Nat × Ob)} (h : Pk l xs l') : l.Perm (xs ++ l') := by
  induction h with
  | nil => exact .refl _
  | cons h1 _ ih => exact h1.perm.trans (ih.cons _)
theorem r_ldM {t : TypeId} {x : Operand} {i p : Nat} {u : T} {ts : List T} (hG : Fits P G) (hx : Ad a x = some (.ptr i p)) (hob : Has σ.L i (.cells ts)) (hr : readT G t ts p = some u) (hd : Ai N (some d) = true)
    (kk : K (put a (some d) u) σ) : AOp P N ⟨some d, .load t x, ty, pos, af, gd⟩ a σ K := by
  obtain ⟨n, h⟩ := hob.get
  exact r_ld n hG hx h hr hd kk
theorem r_stM {t : TypeId} {x y : Operand} {i p : Nat} {u : T} {ts : List T} {ti : TI} {L' : List (Nat × Ob)} (hG : Fits P G) (hx : Ad a x = some (.ptr i p)) (hy : Ad a y = some u) (hob : Upd σ.L i (.cells ts) (.cells (stored ts u.cells p)) L')
    (hsc : (notRaw u && u.cells.all T.scalar) = true) (hty : G t = some ti) (hsz : Nat.beq u.cells.length ti.size = true) (hle : Nat.ble (p + u.cells.length) ts.length = true)
    (kk : K a { σ with L := L' }) : AOp P N ⟨none, .store t x y, ty, pos, af, gd⟩ a σ K := by
  obtain ⟨n, h, e⟩ := hob.get
  refine r_st n hG hx h hy hsc hty hsz hle ?_
  unfold St.set
  rw [e]; exact kk
theorem r_on {f : Operand} {args : Array Operand} {tys : Array TypeId} {g : FuncId} {ts us caps : List T} {L0 Lf : List (Nat × Ob)} {R : T → List (Nat × Ob) → Prop}
    (h : OnL P g us L0 R) (hf : Ad a f = some (.fn (.func g) caps)) (ha : argsT a args.toList = some ts) (hu : ts ++ caps = us) (hd : Ai N dd = true) (hnx : σ.nx = none) (hL : Pk σ.L L0 Lf)
    (k : ∀ u L', R u L' → K (put a dd u) { σ with L := L' ++ Lf }) : AOp P N ⟨dd, .call ⟨.value f, args, tys⟩, ty, pos, af, gd⟩ a σ K := by
  subst hu
  cases dd with
  | none => exact op_callN rfl hf ha rfl (h.calls hnx hL.perm k)
  | some d => exact op_call rfl hf ha rfl hd (h.calls hnx hL.perm k)
theorem ret_on {rs : List ResultVar} {ts : List T} {r : T} {L' Lf : List (Nat × Ob)} {R : T → List (Nat × Ob) → Prop} (h : ResRs G a σ rs ts) (hL : Pk σ.L L' Lf) (hw : Wk (tup1 ts) r) (hnx : σ.nx = none) (hR : R r L') :
    retA G rs (fun u σ' => ∃ L', R u L' ∧ σ' = ⟨L', [], σ.off, none⟩) .ret a σ := by
  refine ⟨ts, h, ((((Conv.g (perm_step (σ := σ) hL.perm)).trans (Conv.g (Bc (σ := { σ with L := L' ++ Lf }) (L' := L') (R' := []) (List.sublist_append_left _ _) (List.nil_sublist _)))).trans (Conv.wk hw)).cr ⟨L', hR, ?_⟩)⟩
  rw [← hnx]
theorem pk_step {L' Lf : List (Nat × Ob)} {R' : List Nat} (hL : Pk σ.L L' Lf) (hR : R'.Sublist σ.R) : GStep σ { σ with L := L', R := R' } :=
  (perm_step (σ := σ) hL.perm).trans (Bc (σ := { σ with L := L' ++ Lf }) (L' := L') (R' := R') (List.sublist_append_left _ _) hR)
variable {ops : Array Oper} {os : List Oper} {k : Nat} {f : Operand} {args : Array Operand} {tys : Array TypeId} {g : FuncId} {ts : List T} {r : T} {L0 Lf : List (Nat × Ob)}
theorem al_onS (h : OnL P g ts L0 (fun u L => u = r ∧ L = L0)) (hg : Bb ops a ⟨some d, .call ⟨.value f, args, tys⟩, ty, pos, af, gd⟩ = some true) (hf : Ad a f = some (.fn (.func g) [])) (ha : argsT a args.toList = some ts) (hd : Ai N (some d) = true) (hnx : σ.nx = none) (hL : Pk σ.L L0 Lf)
    (k' : AL P N ops Q (k + 1) os (put a (some d) r) σ) : AL P N ops Q k (⟨some d, .call ⟨.value f, args, tys⟩, ty, pos, af, gd⟩ :: os) a σ := Ac hg (r_onS hf ha hd hnx h hL.perm k')
theorem dl_on {a' : Env} (h : OnL P g ts L0 (fun u L => u = r ∧ L = L0)) (ha' : Ay a (Ax ops ⟨some d, .call ⟨.value f, args, tys⟩, ty, pos, af, gd⟩) = a') (hg : Bb ops a' ⟨some d, .call ⟨.value f, args, tys⟩, ty, pos, af, gd⟩ = some true) (hf : Ad a' f = some (.fn (.func g) [])) (ha : argsT a' args.toList = some ts) (hd : Ai N (some d) = true) (hnx : σ.nx = none) (hL : Pk σ.L L0 Lf)
    (k' : DL P N ops Q σ os (put a (some d) r)) : DL P N ops Q σ (⟨some d, .call ⟨.value f, args, tys⟩, ty, pos, af, gd⟩ :: os) a := by
  subst ha'
  exact Ap hg rfl (fun K kk => r_onS hf ha hd hnx h hL.perm kk) k'
theorem al_on {us caps : List T} {R : T → List (Nat × Ob) → Prop} (h : OnL P g us L0 R) (hg : Bb ops a ⟨dd, .call ⟨.value f, args, tys⟩, ty, pos, af, gd⟩ = some true) (hf : Ad a f = some (.fn (.func g) caps)) (ha : argsT a args.toList = some ts) (hu : ts ++ caps = us) (hd : Ai N dd = true) (hnx : σ.nx = none) (hL : Pk σ.L L0 Lf)
    (k' : ∀ u L', R u L' → AL P N ops Q (k + 1) os (put a dd u) { σ with L := L' ++ Lf }) : AL P N ops Q k (⟨dd, .call ⟨.value f, args, tys⟩, ty, pos, af, gd⟩ :: os) a σ := Ac hg (r_on h hf ha hu hd hnx hL k')
theorem wk_step {i : Nat} {cs ds : List T} {L' : List (Nat × Ob)} (h : Upd σ.L i (.cells cs) (.cells ds) L') (hw : WkL cs ds) : GStep σ { σ with L := L' } := by
  obtain ⟨n, hn, rfl⟩ := h.get
  obtain ⟨hlen, hwk⟩ := hw.get
  have hnl : n < σ.L.length := (List.getElem?_eq_some_iff.1 hn).1
  have fwd : ∀ j ob, (j, ob) ∈ σ.L.set n (i, .cells ds) → ∃ ob', (j, ob') ∈ σ.L := fun j ob hm => by
    rcases List.mem_or_eq_of_mem_set hm with h1 | h1
    · exact ⟨ob, h1⟩
    · injection h1 with h1 h2; subst h1; exact ⟨_, List.mem_of_getElem? hn⟩
  have bwd : ∀ j ob, (j, ob) ∈ σ.L → ∃ ob', (j, ob') ∈ σ.L.set n (i, .cells ds) := fun j ob hm => by
    obtain ⟨k, hk, hk2⟩ := List.mem_iff_getElem.1 hm
    by_cases e : n = k
    · subst e
      rw [List.getElem?_eq_getElem hnl, hk2] at hn
      injection hn with hn; injection hn with h1 h2; subst h1
      exact ⟨_, List.mem_of_getElem? (List.getElem?_set_self hnl)⟩
    · exact ⟨ob, List.mem_of_getElem? (i := k) (by rw [List.getElem?_set_ne e, List.getElem?_eq_getElem hk, hk2])⟩
  intro w μ hi
  have ev : Ev w μ σ w μ { σ with L := σ.L.set n (i, .cells ds) } := by
    refine ⟨.refl _ _, fun _ _ h => h, fun _ _ h => h, rfl, fun _ _ h => h, fun b hb hl => ⟨?_, rfl⟩, fun b o h => ⟨⟨h.lt, h.off, fun j x p h1 => let ⟨x', h2⟩ := fwd j x h1; h.obj j x' p h2, h.room⟩, rfl⟩⟩
    rintro (⟨j, x, p, h1, h2⟩ | h)
    · obtain ⟨x', h3⟩ := fwd j x h1; exact hl (.inl ⟨j, x', p, h3, h2⟩)
    · exact hl (.inr h)
  refine ⟨⟨fun j ts h => ?_, fun j es h => ?_, fun n1 n2 j1 j2 x y b p q h1 h2 h3 h4 => ?_, fun k hk => ?_, hi.rinj, hi.fin, hi.offlt, fun j x b p h1 => let ⟨x', h2⟩ := fwd j x h1; hi.offobj j x' b p h2⟩, ev⟩
  · rcases List.mem_or_eq_of_mem_set h with h1 | h1
    · obtain ⟨b, p, c, e, k1, k2, k3, k4⟩ := hi.obj j ts h1
      exact ⟨b, p, c, e, k1, k2, k3, fun q t v k5 k6 => (k4 q t v k5 k6).ev ev⟩
    · injection h1 with h1 h2; subst h1; injection h2 with h2; subst h2
      obtain ⟨b, p, c, e, k1, k2, k3, k4⟩ := hi.obj j cs (List.mem_of_getElem? hn)
      refine ⟨b, p, c, e, k1, k2, by rw [← hlen]; exact k3, fun q t v k5 k6 => ?_⟩
      obtain ⟨c', hc'⟩ : ∃ c', cs[q]? = some c' := ⟨_, List.getElem?_eq_getElem (by rw [hlen]; exact (List.getElem?_eq_some_iff.1 k5).1)⟩
      exact hwk q c' t hc' k5 _ _ _ _ ((k4 q c' v hc' k6).ev ev)
  · rcases List.mem_or_eq_of_mem_set h with h1 | h1
    · obtain ⟨b, c, e, k1, k2, k3, k4⟩ := hi.map j es h1
      exact ⟨b, c, e, k1, k2, k3, fun q k u e' h5 h6 => let ⟨h7, h8⟩ := k4 q k u e' h5 h6; ⟨h7.ev ev, h8.ev ev⟩⟩
    · injection h1 with h1 h2; cases h2
  · have look : ∀ k j x, (σ.L.set n (i, Ob.cells ds))[k]? = some (j, x) → ∃ x', σ.L[k]? = some (j, x') := fun k j x hx => by
      by_cases e : n = k
      · subst e
        rw [List.getElem?_set_self hnl] at hx
        injection hx with hx; injection hx with h5 h6; subst h5; exact ⟨_, hn⟩
      · rw [List.getElem?_set_ne e] at hx; exact ⟨x, hx⟩
    obtain ⟨x', h5⟩ := look n1 j1 x h1
    obtain ⟨y', h6⟩ := look n2 j2 y h2
    exact hi.inj n1 n2 j1 j2 x' y' b p q h5 h6 h3 h4
  · obtain ⟨b, f, t, h1, h2, h3⟩ := hi.room k hk
    exact ⟨b, f, t, h1, h2, fun hlt => let ⟨h4, h5, h6⟩ := h3 hlt; ⟨h4, fun j x p h7 => let ⟨x', h8⟩ := fwd j x h7; h5 j x' p h8, h6⟩⟩
def Cont (L0 : List (Nat × Ob)) (σ : St) : Prop := σ.nx = none ∧ ∃ Lf, σ.L.Perm (L0 ++ Lf)
theorem Cont.of (h : σ.nx = none) (hp : Pk σ.L L0 Lf) : Cont L0 σ := ⟨h, Lf, hp.perm⟩
theorem r_ldC {t : TypeId} {x : Operand} {i p : Nat} {u : T} {cs : List T} (hσ : Cont L0 σ) (hG : Fits P G) (hx : Ad a x = some (.ptr i p)) (hob : Has L0 i (.cells cs)) (hr : readT G t cs p = some u) (hd : Ai N (some d) = true)
    (kk : K (put a (some d) u) σ) : AOp P N ⟨some d, .load t x, ty, pos, af, gd⟩ a σ K := by
  obtain ⟨_, Lf, hp⟩ := hσ
  obtain ⟨n, h⟩ := hob.get
  obtain ⟨n', h'⟩ := List.getElem?_of_mem (hp.mem_iff.2 (List.mem_append_left _ (List.mem_of_getElem? h)))
  exact r_ld n' hG hx h' hr hd kk
theorem dq_onC {eff : List Nat} {QE : Env → Prop} {i : Nat} {a' : Env} {L1 Lr : List (Nat × Ob)} (h : OnL P g ts L1 (fun u L => u = r ∧ L = L1)) (hb : memB i eff = false) (ha' : Ay a (Ax ops ⟨some d, .call ⟨.value f, args, tys⟩, ty, pos, af, gd⟩) = a') (hg : Bb ops a' ⟨some d, .call ⟨.value f, args, tys⟩, ty, pos, af, gd⟩ = some true)
    (hf : Ad a' f = some (.fn (.func g) [])) (ha : argsT a' args.toList = some ts) (hd : Ai N (some d) = true) (hp : Pk L0 L1 Lr) (k' : DQ P N ops eff (Cont L0) QE (i + 1) os (put a (some d) r)) : DQ P N ops eff (Cont L0) QE i (⟨some d, .call ⟨.value f, args, tys⟩, ty, pos, af, gd⟩ :: os) a := by
  subst ha'
  refine dq_cons hb hg rfl (fun σ hσ K kk => ?_) k'
  obtain ⟨h1, Lf, h2⟩ := hσ
  refine r_onS (Lf := Lr ++ Lf) hf ha hd h1 h ?_ kk
  rw [← List.append_assoc]
  exact h2.trans (hp.perm.append_right _)
end
theorem hs {p : Prop} (h : p := by repeat constructor) : p := h
end Go.Ts
set_option linter.unusedSimpArgs false
set_option linter.unusedVariables false
namespace Go.Ts
section
variable {P : Program} {G : Nat → Option TI} {N : Nat} {σ : St} {a : Env} {K : Env → St → Prop} {d : Tmp} {dd : Option Tmp} {ty : TypeId} {pos : String} {af : Array Edge} {gd : Option (Nat × Bool)} {α : Type}
theorem r_delM (f : α → T) {t t2 kt et : TypeId} {mo x : Operand} {ti tk : TI} {k i : Nat} {m : List (Nat × α)} {L' : List (Nat × Ob)} (hG : Fits P G) (hm : Ad a mo = some (.map (some i))) (hx : Ad a x = some (.int .u64 ((k : Nat) : Int))) (hob : Upd σ.L i (.map (m.map (gT f))) (.map ((gdel m k).map (gT f))) L')
    (ht : G t = some ti) (htd : ti.d = .map kt et) (hk : G kt = some tk) (hkd : tk.d = .int .u64) (hd : Ai N dd = true) (kk : K (put a dd (.tup [])) { σ with L := L' }) : AOp P N ⟨dd, .call ⟨.builtin .delete, #[mo, x], #[t, t2]⟩, ty, pos, af, gd⟩ a σ K := by
  obtain ⟨n, h, e⟩ := hob.get
  refine r_delG f n hG hm hx h ht htd hk hkd hd ?_
  unfold St.set; rw [e]; exact kk
end
end Go.Ts
set_option linter.unusedSimpArgs false
set_option linter.unusedVariables false
namespace Go.Ts
section
variable {P : Program} {G : Nat → Option TI} {N : Nat} {σ : St} {a : Env} {K : Env → St → Prop} {d : Tmp} {dd : Option Tmp} {ty : TypeId} {pos : String} {af : Array Edge} {gd : Option (Nat × Bool)} {α : Type}
theorem read_flat [Inhabited α] {f : α → T} {sz : Nat} [Enc f sz] {l : List α} {z j : Nat} {t : TypeId} {u : T} (hz : z < l.length) (hr : readT G t (f (l.getD z default)).cells j = some u) : readT G t (flat (l.map f)) (z * sz + j) = some u := by
  have hg : (l.map f)[z]? = some (f (l.getD z default)) := by simp [List.getD, hz]
  obtain ⟨A, B, h1, h2, _⟩ := flat_slice (enc_sized f l) hg
  generalize hcs : (f (l.getD z default)).cells = cs at *
  rw [h1, ← h2]
  unfold readT at hr ⊢
  split
  · rename_i h; rw [h] at hr; cases hr
  · rename_i ti h
    rw [h] at hr
    dsimp only at hr
    cases ha : ti.d.agg with
    | true =>
      rw [ha, cond_true] at hr
      rw [cond_true]
      cases hb : Nat.ble (j + ti.size) cs.length with
      | false => rw [hb] at hr; cases hr
      | true =>
        rw [hb, cond_true] at hr
        have hle := Nat.le_of_ble_eq_true hb
        rw [Nat.ble_eq_true_of_le (by simp only [List.length_append]; omega), cond_true, ← hr]
        have e1 : (A ++ (cs ++ B)).drop (A.length + j) = (cs ++ B).drop j := by rw [← List.drop_drop, List.drop_left]
        have e2 : ((cs ++ B).drop j).take ti.size = (cs.drop j).take ti.size := by rw [List.drop_append_of_le_length (by omega), List.take_append_of_le_length (by rw [List.length_drop]; omega)]
        rw [List.append_assoc, e1, e2]
    | false =>
      rw [ha, cond_false] at hr
      rw [cond_false]
      have hj : j < cs.length := (List.getElem?_eq_some_iff.1 hr).1
      rw [List.append_assoc, List.getElem?_append_right (by omega), show A.length + j - A.length = j by omega, List.getElem?_append_left hj]
      exact hr
end
end Go.Ts
set_option maxHeartbeats 4000000
namespace Go.Proofs.Ythfgocinlbogeaa
open Go.Ts
set_option linter.unusedSimpArgs false
set_option linter.unusedVariables false
attribute [local irreducible] Go.Ts.AW Go.Ts.AOps Go.Ts.AL Go.Ts.AOp Go.Ts.ACalls Go.Ts.DL Go.Ts.DQ Go.Ts.DQ0 Go.Ts.EL
def goneS (s : SB) : SB := ⟨0, [], false, s.turn, by decide⟩
theorem arL_ne {v : UInt8} {l : List SB} {at' : List (Nat × Int)} {p ri m : Nat} (h : l ≠ []) : arL v l at' p ri m = [(p, .cells [bT v, .aref 4 ri 0 l.length none, .map (some m)]), (m, .map (at'.map kvT)), (ri, .cells (flat (l.map sbT)))] := by
  unfold arL; rw [slT_ne h, rowOf_ne h]
theorem arena_Drop_is (v : UInt8) (l : List SB) (at' : List (Nat × Int)) {id j : Nat} (hk : khas at' id = true) (hj : klook at' id = ((j : Nat) : Int)) (hjl : j < l.length) (hl : l.length ≤ 1000000) (p ri m : Nat) :
    OnL Try.prog 37 [.ptr p 0, .int .u64 (id : Int)] (arL v l at' p ri m) (fun u L => u = .int .i64 0 ∧ L = arL v (l.set j (goneS (l.getD j default))) (gdel at' id) p ri m) := by
  have hf := arena_find_is v l at' hk hj p ri m
  have hne : l ≠ [] := by rintro rfl; simp at hjl
  have hne2 : l.set j (goneS (l.getD j default)) ≠ [] := by simpa using hne
  rw [arL_ne hne] at hf ⊢
  rw [arL_ne hne2, List.length_set]
  simp only [kv_g] at hf ⊢
  intro off
  refine Af (N := 36) (rs := [.tmp 4]) hG Try.func37 rfl rfl rfl rfl rfl ?_
  repeat' (first | (show AL _ _ _ _ _ _ _ _; first | refine so2 ?_ | refine al_onS hf Y Y Y Y Y hs ?_) | (show DL _ _ _ _ _ _ _; first | refine do2 ?_ | refine dl_on hf Y Y Y Y Y Y hs ?_) | (show AW _ _ _ _ _ _; (fail_if_success show AW _ _ (.region 3 _ _) _ _ _); first | (show AW _ _ (.region _ _ _) _ _ _; refine sc0 ?_; intro O1) | (refine sc1 ?_; try intro Q1)) | (show (_ → _) ∧ _; refine ⟨fun h => ?_, fun h => ?_⟩) | fail)
  refine Bh (m := 14) [] (Cont [(p, .cells [bT v, .aref 4 ri 0 l.length none, .map (some m)]), (ri, .cells (flat (l.map sbT)))]) mix Y (by repeat (first | exact Sp.zero _ | apply Sp.succ)) ?_; intro O1 F1 Z1 Q2; repeat' (first | (show DQ _ _ _ _ _ _ _ _ _; first | refine ep2 ?_) | (show EL _ _ _ _ _ _ _ _ _; first | refine eqc ?_ | (refine ec ?_; intro i)) | (show (_ → _) ∧ _; refine ⟨fun h => ?_, fun h => ?_⟩) | fail)
  refine' dq_cons rfl rfl rfl (fun σ hσ K kk => Ak (sz := 4) hG rfl rfl rfl rfl rfl rfl rfl hjl kk) ?_
  repeat' (first | (show DQ _ _ _ _ _ _ _ _ _; first | refine ep2 ?_) | (show EL _ _ _ _ _ _ _ _ _; first | refine eqc ?_ | (refine ec ?_; intro i)) | (show (_ → _) ∧ _; refine ⟨fun h => ?_, fun h => ?_⟩) | fail)
  refine' dq_cons rfl rfl rfl (fun σ hσ K kk => r_ldC hσ hG rfl hs (read_flat hjl rfl) rfl kk) ?_
  repeat' (first | (show DQ _ _ _ _ _ _ _ _ _; first | refine ep2 ?_) | (show EL _ _ _ _ _ _ _ _ _; first | refine eqc ?_ | (refine ec ?_; intro i)) | (show (_ → _) ∧ _; refine ⟨fun h => ?_, fun h => ?_⟩) | fail)
  repeat' (first | (show AL _ _ _ _ _ _ _ _; (fail_if_success show AL _ _ _ _ _ (⟨_, .store _ _ _, _, _, _, _⟩ :: _) _ _); first | (refine Ac Y ?_; (first | (show AOp _ _ ⟨_, .indexAddr _ _ _, _, _, _, _⟩ _ _ _; refine Ak (sz := 4) hG Y Y Y Y Y Y Y (by omega) ?_) | (show AOp _ _ ⟨_, .load _ _, _, _, _, _⟩ _ _ _; first | refine Ab 0 sbT hG Y Y Y Y Y (by omega) Y ?_ | refine Aa 0 sbT hG Y Y Y Y Y (by omega) Y ?_ | refine Ab 1 sbT hG Y Y Y Y Y (by omega) Y ?_ | refine Aa 1 sbT hG Y Y Y Y Y (by omega) Y ?_ | refine Ab 2 sbT hG Y Y Y Y Y (by omega) Y ?_ | refine Aa 2 sbT hG Y Y Y Y Y (by omega) Y ?_ | refine Ab 3 sbT hG Y Y Y Y Y (by omega) Y ?_ | refine Aa 3 sbT hG Y Y Y Y Y (by omega) Y ?_))) | refine so2 ?_) | (show DL _ _ _ _ _ _ _; first | (refine' Ap Y Y (fun K kk => ?_) ?_; (try (show Go.Ts.T; rotate_left)); (first | (show AOp _ _ ⟨_, .indexAddr _ _ _, _, _, _, _⟩ _ _ _; refine Ak (sz := 4) hG Y Y Y Y Y Y Y (by omega) ?_) | (show AOp _ _ ⟨_, .load _ _, _, _, _, _⟩ _ _ _; first | refine Ab 0 sbT hG Y Y Y Y Y (by omega) Y ?_ | refine Aa 0 sbT hG Y Y Y Y Y (by omega) Y ?_ | refine Ab 1 sbT hG Y Y Y Y Y (by omega) Y ?_ | refine Aa 1 sbT hG Y Y Y Y Y (by omega) Y ?_ | refine Ab 2 sbT hG Y Y Y Y Y (by omega) Y ?_ | refine Aa 2 sbT hG Y Y Y Y Y (by omega) Y ?_ | refine Ab 3 sbT hG Y Y Y Y Y (by omega) Y ?_ | refine Aa 3 sbT hG Y Y Y Y Y (by omega) Y ?_)); exact kk) | refine do2 ?_) | (show AW _ _ _ _ _ _; first | (show AW _ _ (.region _ _ _) _ _ _; refine sc0 ?_; intro O1) | (refine sc1 ?_; try intro Q1)) | (show (_ → _) ∧ _; refine ⟨fun h => ?_, fun h => ?_⟩) | fail)
  refine Ac rfl (r_stE 2 sbT (l := l) (v := goneS (l.getD j default)) (z := j) hG rfl rfl rfl rfl rfl rfl rfl hjl ?_)
  repeat' (first | (show AL _ _ _ _ _ _ _ _; (fail_if_success show AL _ _ _ _ _ (⟨_, .call ⟨.builtin .delete, _, _⟩, _, _, _, _⟩ :: _) _ _); first | refine so2 ?_) | (show DL _ _ _ _ _ _ _; first | refine do2 ?_) | (show AW _ _ _ _ _ _; first | (show AW _ _ (.region _ _ _) _ _ _; refine sc0 ?_; intro O1) | (refine sc1 ?_; try intro Q1)) | (show (_ → _) ∧ _; refine ⟨fun h => ?_, fun h => ?_⟩) | fail)
  refine Ac rfl (r_delM (.int .i64) hG rfl rfl hs rfl rfl rfl rfl rfl ?_)
  repeat' (first | (show AL _ _ _ _ _ _ _ _; first | refine so2 ?_) | (show DL _ _ _ _ _ _ _; first | refine do2 ?_) | (show AW _ _ _ _ _ _; first | (show AW _ _ (.region _ _ _) _ _ _; refine sc0 ?_; intro O1) | (refine sc1 ?_; try intro Q1)) | (show (_ → _) ∧ _; refine ⟨fun h => ?_, fun h => ?_⟩) | fail)
  exact ret_on (Ae rfl Ag) hs (.refl _) rfl ⟨rfl, rfl⟩
theorem arena_Drop_no (v : UInt8) (l : List SB) (at' : List (Nat × Int)) {id : Nat} (hk : khas at' id = false) (p ri m : Nat) :
    OnL Try.prog 37 [.ptr p 0, .int .u64 (id : Int)] (arL v l at' p ri m) (fun u L => u = .int .i64 7 ∧ L = arL v l at' p ri m) := by
  have hf := arena_find_no v l at' hk p ri m
  intro off
  refine Af (N := 36) (rs := [.tmp 4]) hG Try.func37 rfl rfl rfl rfl rfl ?_
  repeat' (first | (show AL _ _ _ _ _ _ _ _; first | refine so2 ?_) | (show DL _ _ _ _ _ _ _; first | refine do2 ?_) | (show AW _ _ _ _ _ _; first | (show AW _ _ (.region _ _ _) _ _ _; refine sc0 ?_; intro O1) | (refine sc1 ?_; try intro Q1)) | (show (_ → _) ∧ _; refine ⟨fun h => ?_, fun h => ?_⟩) | fail)
  refine Ac rfl (r_onL0 rfl rfl rfl rfl rfl hf ?_)
  rintro u L' ⟨rfl, rfl⟩
  repeat' (first | (show AL _ _ _ _ _ _ _ _; first | refine so2 ?_) | (show DL _ _ _ _ _ _ _; first | refine do2 ?_) | (show AW _ _ _ _ _ _; first | (show AW _ _ (.region _ _ _) _ _ _; refine sc0 ?_; intro O1) | (refine sc1 ?_; try intro Q1)) | (show (_ → _) ∧ _; refine ⟨fun h => ?_, fun h => ?_⟩) | fail)
  exact Az (Ae rfl Ag) (.refl _) (.refl _) (.refl _) rfl ⟨rfl, rfl⟩
def KN (at' : List (Nat × Int)) : Prop := (at'.map (·.1)).Nodup
theorem kn_put {l : List SB} {at' : List (Nat × Int)} (h : KN at') (id : Nat) : KN (putA l at' id) := by
  unfold putA
  split
  · exact h
  · rename_i hk
    unfold KN
    rw [keys_kset]
    split
    · exact h
    · rename_i h2
      refine List.nodup_append.2 ⟨h, by simp, fun a ha b hb => ?_⟩
      rw [List.mem_singleton] at hb; subst hb
      rintro rfl; exact h2 ha
theorem kn_del {at' : List (Nat × Int)} (h : KN at') (id : Nat) : KN (gdel at' id) := List.Pairwise.sublist (keys_gdel at' id) h
theorem khas_del {at' : List (Nat × Int)} (h : KN at') (id id' : Nat) : khas (gdel at' id) id' = (!decide (id' = id) && khas at' id') := by
  rw [khas_g, khas_g, glook_gdel h]
  by_cases e : id' = id <;> simp [e]
theorem klook_del {at' : List (Nat × Int)} (h : KN at') {id id' : Nat} (e : id' ≠ id) : klook (gdel at' id) id' = klook at' id' := by
  rw [klook_g, klook_g, glook_gdel h, if_neg e]
theorem wfa_del {l : List SB} {at' : List (Nat × Int)} (h : WFA l at') (hn : KN at') {id j : Nat} (hk : khas at' id = true) (hj : klook at' id = ((j : Nat) : Int)) (hjl : j < l.length) : WFA (l.set j (goneS (l.getD j default))) (gdel at' id) := by
  obtain ⟨j0, b1, b2, b3, b4⟩ := h.b id hk
  have ej : j0 = j := by omega
  subst ej
  refine ⟨fun k hk2 ht => ?_, fun id' h2 => ?_⟩
  · rw [List.length_set] at hk2
    rw [getD_set hk2] at ht ⊢
    by_cases e : j0 = k
    · rw [if_pos e] at ht; cases ht
    · rw [if_neg e] at ht ⊢
      obtain ⟨a1, a2⟩ := h.a k hk2 ht
      have hne : (l.getD k default).id ≠ id := fun e2 => by rw [e2, b1] at a2; omega
      rw [khas_del hn, klook_del hn hne, decide_eq_false hne, a1]
      exact ⟨rfl, a2⟩
  · rw [khas_del hn, Bool.and_eq_true, Bool.not_eq_true', decide_eq_false_iff_not] at h2
    obtain ⟨k, c1, c2, c3, c4⟩ := h.b id' h2.2
    have hne : j0 ≠ k := fun e => h2.1 (by rw [← c4, ← b4, e])
    refine ⟨k, by rw [klook_del hn h2.1]; exact c1, by rw [List.length_set]; exact c2, ?_, ?_⟩
    · rw [getD_set c2, if_neg hne]; exact c3
    · rw [getD_set c2, if_neg hne]; exact c4
theorem rec_del {l : List SB} {at' : List (Nat × Int)} (h : WFA l at') (hn : KN at') {id j id' : Nat} (hk : khas at' id = true) (hj : klook at' id = ((j : Nat) : Int)) (hjl : j < l.length) (hne : id' ≠ id) (hk' : khas at' id' = true) : recA (l.set j (goneS (l.getD j default))) (gdel at' id) id' = recA l at' id' := by
  obtain ⟨j0, b1, b2, b3, b4⟩ := h.b id hk
  obtain ⟨k, c1, c2, c3, c4⟩ := h.b id' hk'
  have ej : j0 = j := by omega
  subst ej
  unfold recA
  rw [klook_del hn hne, c1, Int.toNat_natCast, getD_set c2, if_neg (fun e => hne (by rw [← c4, ← b4, e]))]
end Go.Proofs.Ythfgocinlbogeaa
namespace Go.Ts
set_option linter.unusedSimpArgs false
set_option linter.unusedVariables false
section
variable {P : Program} {G : Nat → Option TI} {N : Nat} {σ : St} {a : Env} {K : Env → St → Prop} {d : Tmp} {ty : TypeId} {pos : String} {af : Array Edge} {gd : Option (Nat × Bool)} {Q : Exit → Env → St → Prop} {α : Type}
theorem aop_copyL (hG : Fits P G) {o : Oper} {x y : Operand} {t1 t2 : TypeId} {e : Nat} {i1 ie : TI} {n i m : Nat} {cap : Option Nat} {ts ys : List T} {u : T} {K : Env → St → Prop}
    (ho : o.op = .call { callee := .builtin .copy, args := #[x, y], argTypes := #[t1, t2] }) (hx : Ad a x = some (.aref 1 i 0 m cap)) (h1 : G t1 = some i1) (h1d : i1.d = .slice e) (he : G e = some ie) (hs : Nat.beq ie.size 1 = true)
    (hy : Ad a y = some u) (hsrc : srcOf (fun _ => none) 1 u = some ys) (hsc : ys.all T.scalar = true) (hob : σ.L[n]? = some (i, .cells ts)) (hle : ys.length ≤ m ∧ ys.length ≤ ts.length) (hd : Ai N o.dst = true)
    (k : K (put a o.dst (.int .i64 ys.length)) (σ.set n i (.cells (stored ts ys 0)))) : AOp P N o a σ K := by
  intro av w μ hi hr next Qc hn
  have rx := Al hr hx
  have ry := Al hr hy
  obtain ⟨s1, s2, vs, s3, s4, s5⟩ := srcOf_run (P := P) hi (fun i o h => by cases h) ry hsrc
  obtain ⟨hfl, _⟩ := flat_scalar hsc
  rw [hfl] at s4 s5
  obtain ⟨b, q, c, et, hl, hc, hlen, hrel⟩ := hi.obj i ts (List.mem_of_getElem? hob)
  have hone : ∀ v ∈ vs.toList, v.oneCell' = true := by
    intro v hv
    obtain ⟨j, hj, hjv⟩ := List.getElem_of_mem hv
    have hj' : j < ys.length := by rw [Array.length_toList] at hj; omega
    refine (s5 j ys[j] v (List.getElem?_eq_getElem hj') ?_).scalar (List.all_eq_true.1 hsc _ (List.getElem_mem hj'))
    rw [← hjv]; simp
  have hst := run_storeCells_at (P := P) b q et vs.toList 0 c w hc (by rw [Array.length_toList]; omega) hone
  have u1 : (underlying t1).run P w = .ok (.slice e) w := by
    obtain ⟨d, u, f⟩ := Aq (P := P) (w := w) hG h1; rw [h1d] at f; obtain rfl := A0 f; exact u
  have us := g_size (P := P) (w := w) hG he
  rw [Nat.eq_of_beq_eq_true hs] at us
  generalize hv : av.eval x = vx at rx
  cases rx with
  | aref i b' q' p n' c0 sz cap hl' hc0 hcap hb =>
  rw [hl] at hl'; injection hl' with hl'; injection hl' with e1 e2; subst e1; subst e2
  generalize hc' : (c.toList.take (q + 0) ++ vs.toList ++ c.toList.drop (q + 0 + vs.toList.length)).toArray = c' at hst
  have hrun : (execOp av.eval o).run P w = .ok (.value (.int .i64 ys.length)) (w.setRow b c') := by
    have hmin : Nat.min ys.length m = ys.length := Nat.min_eq_left hle.1
    try simp only [Nat.add_zero] at hst
    simp [execOp, ho, resolve, invoke, builtin, Builtin.copy_, hv, u1, s1, us, hmin, s3 w rfl, hst, goInt]
  have hc'size : c'.size = c.size := by rw [← hc']; simp; omega
  have ev : Ev w μ σ (w.setRow b c') μ (σ.set n i (.cells (stored ts ys 0))) := set_ev hi hob hl hc hc'size
  have hi' : Inv (w.setRow b c') μ (σ.set n i (.cells (stored ts ys 0))) := by
    refine set_inv hi hob hl hc hc'size (by rw [stored_length (by omega)]; omega) fun j t' v hj hv' => ?_
    rw [← hc'] at hv'
    simp only [Nat.add_zero, List.getElem?_toArray] at hv'
    unfold stored at hj
    simp only [List.take_zero, List.nil_append, Nat.zero_add] at hj
    rw [List.append_assoc] at hv'
    have hl2 : (c.toList.take q).length = q := by simp; omega
    rw [List.getElem?_append_right (by omega), hl2, show q + j - q = j by omega] at hv'
    rcases Nat.lt_or_ge j ys.length with h2 | h2
    · rw [List.getElem?_append_left (by omega)] at hj
      rw [List.getElem?_append_left (by rw [Array.length_toList]; omega)] at hv'
      exact s5 j t' v hj (by simpa using hv')
    · rw [List.getElem?_append_right (by omega)] at hj
      rw [List.getElem?_append_right (by rw [Array.length_toList]; omega)] at hv'
      rw [List.getElem?_drop] at hj hv'
      rw [Array.length_toList] at hv'
      refine hrel j t' v ?_ ?_
      · rw [show ys.length + (j - ys.length) = j by omega] at hj; exact hj
      · rw [show q + vs.size + (j - vs.size) = q + j by omega] at hv'; simpa using hv'
  unfold Oper.wp
  rw [hrun]
  exact hn _ _ _ _ _ ev hi' ((hr.ev ev).put hd (.int _ _)) k

theorem map_stored (f : α → T) (hf : ∀ x, (f x).cells = [f x]) (l : List α) (v : α) {p : Nat} (h : p < l.length) : stored (l.map f) (f v).cells p = (l.set p v).map f := by
  rw [hf]
  apply List.ext_getElem?
  intro k
  rw [stored_get (by simp; omega)]
  simp only [List.length_singleton, List.getElem?_map, List.getElem?_set]
  by_cases hk : p = k
  · subst hk; simp [h]
  · rw [if_neg (by omega), if_neg hk]
theorem r_ldB [Inhabited α] (m : Nat) {f : α → T} {l : List α} {t : TypeId} {x : Operand} {i p : Nat} {ti : TI} (hG : Fits P G) (hx : Ad a x = some (.ptr i p)) (hob : σ.L[m]? = some (i, .cells (l.map f))) (ht : G t = some ti) (hag : ti.d.agg = false)
    (hp : p < l.length) (hd : Ai N (some d) = true) (kk : K (put a (some d) (f (l.getD p default))) σ) : AOp P N ⟨some d, .load t x, ty, pos, af, gd⟩ a σ K := by
  refine r_ld m hG hx hob ?_ hd kk
  simp [readT, ht, hag, hp, List.getD]
theorem r_stB (m : Nat) {f : α → T} {l : List α} (v : α) {t : TypeId} {x y : Operand} {i p : Nat} {ti : TI} (hG : Fits P G) (hx : Ad a x = some (.ptr i p)) (hob : σ.L[m]? = some (i, .cells (l.map f))) (hy : Ad a y = some (f v))
    (hf : ∀ x, (f x).cells = [f x]) (hsc : ∀ x, (notRaw (f x) && (f x).cells.all T.scalar) = true) (hty : G t = some ti) (hsz : Nat.beq 1 ti.size = true) (hp : p < l.length)
    (kk : K a (σ.set m i (.cells ((l.set p v).map f)))) : AOp P N ⟨none, .store t x y, ty, pos, af, gd⟩ a σ K := by
  refine r_st m hG hx hob hy (hsc v) hty (by rw [hf]; exact hsz) ?_ ?_
  · rw [hf, List.length_map]; exact Nat.ble_eq_true_of_le (by simp; omega)
  · rw [map_stored f hf l v hp]; exact kk
theorem bT_cells (x : UInt8) : (bT x).cells = [bT x] := rfl
theorem bT_sc (x : UInt8) : (notRaw (bT x) && (bT x).cells.all T.scalar) = true := rfl
theorem r_slC {t : TypeId} {x hi : Operand} {k : IntKind} {z e i n c : Nat} {ti te : TI} (hG : Fits P G)
    (hx : Ad a x = some (.aref 1 i 0 n (some c))) (hn : Ad a hi = some (.int k ((z : Nat) : Int))) (ht : G t = some ti) (htd : ti.d = .slice e) (hte : G e = some te) (hsz : Nat.beq 1 te.size = true) (hd : Ai N (some d) = true)
    (h0 : z ≤ c) (kk : K (put a (some d) (.aref 1 i 0 z (some c))) σ) : AOp P N ⟨some d, .slice t x none (some hi) none, ty, pos, af, gd⟩ a σ K := by
  by_cases hz : z = 0
  · subst hz
    exact op_cut0 hG rfl hx rfl (by simpa using hn) ht htd hte hsz rfl hd kk
  · have h1 : 1 = te.size := Nat.eq_of_beq_eq_true hsz
    refine op_q hG (t := .aref 1 i 0 z (some c)) ?_ rfl hd kk
    obtain ⟨d1, s1, s2, s3⟩ := ti
    simp only at htd; subst htd
    have h2 : sizeT G e = some 1 := by simp [sizeT, hte, ← h1]
    simp only [Av, hx, ht, h2, Option.map_some, Option.map_none, hn, Option.getD_some, Option.getD_none]
    have h3 : (Nat.beq 1 1 && decide ((0 : Int) ≤ 0) && decide ((0 : Int) ≤ (z : Int)) && decide ((z : Int) ≤ ((c : Nat) : Int))) = true := by simp; omega
    have h4 : decide ((0 : Int) < (z : Int)) = true := decide_eq_true (by omega)
    rw [h3, cond_true, h4, cond_true]
    simp
theorem r_mkB {t : TypeId} {x y : Operand} {k k' : IntKind} {e z : Nat} {ti te : TI} (hG : Fits P G)
    (ht : G t = some ti) (htd : ti.d = .slice e) (he : G e = some te) (hx : Ad a x = some (.int k ((z : Nat) : Int))) (hy : Ad a y = some (.int k' ((z : Nat) : Int))) (hs1 : Nat.beq 1 te.size = true) (htt : te.tree = bT 0)
    (hsz : (Nat.blt 0 te.size && Nat.ble te.bytes 4096) = true) (hd : Ai N (some d) = true) (hn : z ≤ 4294967296)
    (kk : ∀ i, K (put a (some d) (.aref 1 i 0 z (some z))) (σ.new i (.cells ((List.replicate z (0 : UInt8)).map bT)))) : AOp P N ⟨some d, .makeSlice t x y, ty, pos, af, gd⟩ a σ K := by
  refine op_make hG rfl ht htd he hx hy hsz rfl hd ⟨by omega, by omega⟩ fun i => ?_
  have h1 : 1 = te.size := Nat.eq_of_beq_eq_true hs1
  rw [Int.toNat_natCast, ← h1]
  have h2 : zerosT te z = (List.replicate z (0 : UInt8)).map bT := by
    unfold zerosT
    rw [htt, List.map_replicate]
    exact (flat_scalar (xs := List.replicate z (bT 0)) (by simp [bT, T.scalar])).1
  rw [h2]; exact kk i
theorem r_tostrL (m : Nat) {src dst : TypeId} {x : Operand} {l : List UInt8} {e i n : Nat} {cap : Option Nat} {ts td te : TI} (hG : Fits P G)
    (hx : Ad a x = some (.aref 1 i 0 n cap)) (hob : σ.L[m]? = some (i, .cells (l.map bT))) (hs : G src = some ts) (hsd : ts.d = .slice e) (hd1 : G dst = some td) (hdd1 : td.d = .str) (he : G e = some te) (hed : te.d = .int .u8) (hn : n ≤ l.length) (hd : Ai N (some d) = true)
    (kk : K (put a (some d) (.str (l.take n))) σ) : AOp P N ⟨some d, .convert src dst x, ty, pos, af, gd⟩ a σ K := by
  refine aop_quietO (ρ := Ad a) hG (fun _ _ h => h) (objs := fun j => if j = i then some (.cells (l.map bT)) else none) ?_ (t := .str (l.take n)) ?_ hd kk
  · intro j o h
    split at h
    · rename_i hj; subst hj; injection h with h; subst h; exact List.mem_of_getElem? hob
    · cases h
  · obtain ⟨d1, s1, s2, s3⟩ := ts
    obtain ⟨d2, t1, t2, t3⟩ := td
    obtain ⟨d3, u1, u2, u3⟩ := te
    simp only at hsd hdd1 hed; subst hsd; subst hdd1; subst hed
    have h1 : Nat.ble (0 + n) (l.map bT).length = true := Nat.ble_eq_true_of_le (by simp; omega)
    simp only [Av, hx, hs, hd1, he, if_true, h1, cond_true, List.drop_zero, ← List.map_take, bytesOf_map, Option.map_some]
theorem aop_append0L (hG : Fits P G) {o : Oper} {x y : Operand} {t1 t2 : TypeId} {e sz : Nat} {i1 i2 ie : TI} {xs ys : List T} {tx ty : T} {K : Env → St → Prop}
    (ho : o.op = .call { callee := .builtin .append, args := #[x, y], argTypes := #[t1, t2] }) (h1 : G t1 = some i1) (h1d : i1.d = .slice e) (he : G e = some ie) (h2 : G t2 = some i2) (h2d : ∃ e2, i2.d = .slice e2)
    (hx : Ad a x = some tx) (hnr : noRoom tx = some xs) (hnz : noRoomSz sz tx = true) (hy : Ad a y = some ty) {objs : Nat → Option Ob} (hob : ∀ i o, objs i = some o → (i, o) ∈ σ.L) (hsrc : srcOf objs sz ty = some ys) (hsz : (Nat.beq sz ie.size && Nat.blt 0 sz && Nat.ble ie.bytes 4096) = true)
    (hnx : σ.nx = none) (hsc : Scal ys) (hlen : xs.length + ys.length ≤ 4294967296) (hd : Ai N o.dst = true)
    (k : ∀ k', K (put a o.dst (.sl sz (.tok k') (xs ++ ys))) { σ with R := k' :: σ.R }) : AOp P N o a σ K := by
  intro av w μ hi hr next Qc hn
  have rx := noRoom_rel (Al hr hx) hnr hnz
  obtain ⟨k1, f1, f2, f3, f4⟩ := hi.pick
  obtain ⟨x0, hx0, hown⟩ : ∃ x0 : Nat × Nat × Nat, x0.2.1 = x0.2.2 ∧ ∀ w μ' σ', Rel w μ' σ' (av.eval x) (.sl sz .full xs) → μ'.tok k1 = some x0 → Rel w μ' σ' (av.eval x) (.sl sz (.tok k1) xs) := by
    generalize av.eval x = vx at rx
    cases rx with
    | slnil => exact ⟨(0, 0, 0), rfl, fun w μ' σ' r h => .slnil _ _ ⟨_, h, rfl⟩⟩
    | slz ad => exact ⟨(0, 0, 0), rfl, fun w μ' σ' r h => .slz ad _ _ ⟨_, h, rfl⟩⟩
    | sl b p cap sz own xs n hn hc ho hs h0 r0 =>
      refine ⟨(b, p + n * sz, p + cap * sz), ho, fun w μ' σ' r h => ?_⟩
      cases r with
      | slz ad => exact .slz _ _ _ ⟨_, h, ho⟩
      | sl b p cap sz own xs n hn hc ho hs h0 r0 => exact .sl b p cap sz _ xs n hn hc ⟨_, h, .inl rfl⟩ hs h0 r0
  obtain ⟨ev1, hi1⟩ := tok_step hi hnx f1 f2 f4 x0 hx0
  have hr1 := hr.ev ev1
  refine append_coreX (σ := { σ with R := k1 :: σ.R }) (n := 0) hG ho h1 h1d he h2 h2d hi1 hr1 (hown _ _ _ (rx.ev ev1) (addT_same _ _)) (Al hr1 hy) (objs := objs) hob hsrc hsz (fun _ => hnx) rfl hsc hlen hd
    (fun av' w' μ' a' σ' q1 q2 q3 q4 => hn av' w' μ' a' σ' (ev1.trans q1) q2 q3 q4) (fun k' _ => by
      rw [show ({ σ with R := k1 :: σ.R } : St).setT 0 k' = { σ with R := k' :: σ.R } from by cases σ; simp only at hnx; subst hnx; rfl]
      exact k k')

def OwnsL (P : Program) (g : FuncId) (ts : List T) (L0 : List (Nat × Ob)) (sz : Nat) (xs : List T) : Prop :=
  ∀ off, ACalls P g ts ⟨L0, [], off, none⟩ (fun u σ' => ∃ k, u = .sl sz (.tok k) xs ∧ σ' = ⟨L0, [k], off, none⟩)
theorem OwnsL.onS {g : FuncId} {ts : List T} {L0 : List (Nat × Ob)} {sz : Nat} {xs : List T} (h : OwnsL P g ts L0 sz xs) : OnL P g ts L0 (fun u L => u = .sl sz .no xs ∧ L = L0) := fun off =>
  ACalls.conv (h off) (by
    rintro u σ1 ⟨k, rfl, rfl⟩
    exact ((Conv.g (Bc (σ := ⟨L0, [k], off, none⟩) (L' := L0) (R' := []) (List.Sublist.refl _) (List.nil_sublist _))).trans (Conv.wk (Wk.own _ _ _))).cr ⟨L0, ⟨rfl, rfl⟩, rfl⟩)
theorem ret_ownsL (n : Nat) {rs : List ResultVar} {sz k : Nat} {xs : List T} {L0 : List (Nat × Ob)} (h : ResRs G a σ rs [.sl sz (.tok k) xs]) (hs : σ.L = L0) (hRn : σ.R[n]? = some k) (hnx : σ.nx = none) {ys : List T} (he : xs = ys) :
    retA G rs (fun u σ' => ∃ k, u = .sl sz (.tok k) ys ∧ σ' = ⟨L0, [k], σ.off, none⟩) .ret a σ := by
  subst hs; subst he
  refine ⟨_, h, ((conv_drop (L' := σ.L) (R' := [k]) (List.Sublist.refl _) (List.singleton_sublist.2 (List.mem_of_getElem? hRn)) (Wk.refl _)).cr ⟨k, rfl, ?_⟩)⟩
  rw [hnx]
theorem r_nilA {op : BinOp} {t yt : TypeId} {x y : Operand} {sz i o n : Nat} {cap : Option Nat} {u : T} (hG : Fits P G) (hx : Ad a x = some (.aref sz i o n cap)) (he : Av G (fun _ => none) (Ad a) (.binOp op t x y yt) = some u) (hd : Ai N (some d) = true)
    (kk : K (put a (some d) u) σ) : AOp P N ⟨some d, .binOp op t x y yt, ty, pos, af, gd⟩ a σ K := op_q hG he rfl hd kk
section
variable {w w1 : World} {μ : Gh}
theorem aop_app0N (hG : Fits P G) {o : Oper} {x y : Operand} {t1 t2 : TypeId} {e : Nat} {i1 i2 ie : TI} {ys : List T} {ty : T} {K : Env → St → Prop}
    (ho : o.op = .call { callee := .builtin .append, args := #[x, y], argTypes := #[t1, t2] }) (h1 : G t1 = some i1) (h1d : i1.d = .slice e) (he : G e = some ie) (h2 : G t2 = some i2) (h2d : ∃ e2, i2.d = .slice e2)
    (hx : Ad a x = some (.sl ie.size .full [])) (hy : Ad a y = some ty) {objs : Nat → Option Ob} (hob : ∀ i o, objs i = some o → (i, o) ∈ σ.L) (hsrc : srcOf objs ie.size ty = some ys)
    (hsz : (Nat.blt 0 ie.size && Nat.ble ie.bytes 4096) = true) (hys : ys ≠ []) (hlen : ys.length ≤ 4294967296) (hd : Ai N o.dst = true)
    (k : ∀ i', (∀ n, σ.nx = some n → i' = n) → K (put a o.dst (.aref ie.size i' 0 ys.length none)) (σ.new i' (.cells (flat ys)))) : AOp P N o a σ K := by
  intro av w μ hi hr next Qc hn
  simp only [Bool.and_eq_true] at hsz
  have hsz0 : 0 < ie.size := by have := hsz.1; simpa [Nat.blt_eq] using this
  have hby := Nat.le_of_ble_eq_true hsz.2
  have hypos : 0 < ys.length := List.length_pos_iff.2 hys
  obtain ⟨e2, h2d⟩ := h2d
  have us := g_size (P := P) (w := w) hG he
  have rx := Al hr hx
  have ry := Al hr hy
  obtain ⟨s1, s2, vs, s3, s4, s5⟩ := srcOf_run (P := P) hi hob ry hsrc
  have hexec : (execOp av.eval o).run P w = ((Builtin.append_ #[t1, t2] o.type #[av.eval x, av.eval y]).run P w).andThen fun v w' => .ok (.value v) w' := by
    simp [execOp, ho, resolve, invoke, builtin]
  have hfl := flat_length s2
  obtain ⟨i', f1', f2', f3', f4'⟩ := hi.pick
  generalize hvx : av.eval x = vx at rx
  have hnil : ∃ base, vx = .slice base 0 0 := by
    generalize hq : T.sl ie.size Own.full [] = q at rx
    cases rx with
    | slnil => exact ⟨none, rfl⟩
    | slz ad => exact ⟨some ad, rfl⟩
    | sl b p cap sz own xs n hn0 hc ho hs h0 r0 =>
      injection hq with e1 e2 e3
      subst e1; subst e2; subst e3
      obtain rfl : n = 0 := by simpa using hn0.symm
      have ho' : p + 0 * ie.size = p + cap * ie.size := ho
      have hc0 : cap = 0 := by
        rcases Nat.eq_zero_or_pos cap with h | h
        · exact h
        · have := Nat.mul_pos h hsz0; omega
      exact ⟨_, by rw [hc0]⟩
    | _ => cases hq
  obtain ⟨base, hb⟩ := hnil
  clear rx
  obtain ⟨info, ui, hib, his⟩ := g_info (P := P) (w := w) hG he
  have ui' : ∀ w, (typeInfo e).run P w = .ok info w := by
    intro w2
    obtain ⟨i0, d0, k1, k2, _⟩ := hG e ie he
    have e1 : (typeInfo e).run P w = .ok i0 w := by simp [typeInfo, k1]
    rw [ui] at e1; injection e1 with e1; subst e1
    simp [typeInfo, k1]
  obtain ⟨z, uz, rz, hz1, hz2⟩ := g_zero (P := P) (w := w) (μ := μ) (σ := σ) hG he
  have uz' : ∀ w, (zeroValue e).run P w = .ok z w := by
    intro w2
    obtain ⟨i0, d0, k1, k2, k3, k4, k5, k6, _⟩ := hG e ie he
    have e1 : ∀ w, (zeroValue e).run P w = .ok (if ie.d.agg then .agg (ie.zero.map Z.value).toArray else (ie.zero.headD .b).value) w := by
      intro w; simp only [zeroValue, typeInfo, Sem.run_bind, run_program, Result.andThen_ok, k1, k6, Sem.run_pure]
    rw [e1] at uz; injection uz with uz; rw [e1, uz]
  have u1' : ∀ w, (underlying t1).run P w = .ok (.slice e) w := by
    intro w2; obtain ⟨d, u, f⟩ := Aq (P := P) (w := w2) hG h1; rw [h1d] at f; obtain rfl := A0 f; exact u
  have u2' : ∀ w, (underlying t2).run P w = .ok (.slice e2) w := by
    intro w2; obtain ⟨d, u, f⟩ := Aq (P := P) (w := w2) hG h2; rw [h2d] at f; obtain rfl := A0 f; exact u
  obtain ⟨newCap, hnc, hrun⟩ := append_grow_run (P := P) (ty := o.type) (ie := info) (base := base) (sLen := 0) (sCap := 0) (vy := av.eval y) (old := #[]) (vs := vs) (n := ys.length) u1' u2' (fun w => by rw [his]; exact g_size hG he) ui' uz' s1 (by omega) (by omega) (by omega) (.inr trivial)
    (by
      cases base with
      | none => rfl
      | some ad => simpa [Builtin.firstCells] using run_loadCells (P := P) w.drew ad 0 (fun _ => undef) (fun j hj => absurd hj (by omega))) (by rw [his]; exact s3 w.drew rfl)
  simp only [Nat.zero_add, Array.empty_append] at hrun hnc
  have ev1 : Ev w μ σ w.drew μ σ := ev_same rfl rfl rfl rfl
  have hi1 : Inv w.drew μ σ := hi.ev_heap rfl ev1
  generalize hrest : Builtin.zeroCells z.cells (newCap - ys.length) = rest at hrun
  have hrs : rest.size = (newCap - ys.length) * ie.size := by rw [← hrest, zeroCells_size, hz1]
  have hcs : (vs ++ rest).size = newCap * ie.size := by
    rw [Array.size_append, s4, hfl, hrs, ← Nat.add_mul]
    congr 1; omega
  obtain ⟨ev3, i3⟩ := new_step hi1 (vs ++ rest) e f1' f2' f3' f4' (ts := flat ys) (by rw [hcs, hfl]; exact Nat.mul_le_mul_right _ hnc) (fun j t u hj hu => by
    rw [Nat.zero_add] at hu
    refine Rel.ev (w := w) ?_ ev1
    have h4 : j < (flat ys).length := Bk hj
    rw [Array.getElem?_append_left (by omega)] at hu
    exact s5 _ t u hj hu)
  have ev := ev1.trans ev3
  unfold Oper.wp
  rw [hexec, hvx, hb, hrun]
  refine hn _ _ _ _ _ ev i3 ((hr.ev ev).put hd (Rel.aref i' w.heap.size 0 0 ys.length newCap ie.size none (A6 _ _) hnc (fun x hx => by cases hx) ⟨_, e, _, Bl w.drew _, by rw [hcs]; simp⟩)) (k i' f3')

end
end
end Go.Ts
namespace Go.Ts
set_option linter.unusedSimpArgs false
set_option linter.unusedVariables false
section
variable {P : Program} {G : Nat → Option TI} {N : Nat} {σ : St} {a : Env} {K : Env → St → Prop} {d : Tmp} {ty : TypeId} {pos : String} {af : Array Edge} {gd : Option (Nat × Bool)}
def stN : St := ⟨[], [], fun _ _ => False, none⟩
def Lends (L0 : List (Nat × Ob)) (u t : T) : Prop := ∀ w μ σ v, Inv w μ σ → (∀ x ∈ L0, x ∈ σ.L) → Rel w μ σ v u → Rel w μ stN v t
theorem imm_stN {w : World} {μ : Gh} {b o : Nat} (h : b < w.heap.size) : Imm w μ stN b o := ⟨h, fun h => h, fun i ob p h => (by cases h), fun k f t h => (by cases h)⟩
theorem Lends.refl {L0 : List (Nat × Ob)} (t : T) : Lends L0 t t := fun w μ σ v hi _ h =>
  h.ev' ⟨fun _ _ h => h, fun _ _ h => h, fun _ _ h => h, fun b o hx => ⟨imm_stN hx.lt, rfl⟩, fun _ _ _ h _ => h⟩
theorem Lends.row {L0 : List (Nat × Ob)} {i o n : Nat} {cap : Option Nat} {l : List UInt8} (hm : (i, Ob.cells (l.map bT)) ∈ L0) (h : o + n ≤ l.length) : Lends L0 (.aref 1 i o n cap) (.sl 1 .no (((l.drop o).take n).map bT)) := by
  intro w μ σ v hi hL hr
  cases hr with
  | aref i b p o n c sz cap hloc hc hcap hb =>
    obtain ⟨b', p', hl', hcells⟩ := hi.cells (hL _ hm)
    rw [hloc] at hl'; injection hl' with hl'; injection hl' with e1 e2; subst e1; subst e2
    have hlt : b < w.heap.size := by obtain ⟨b2, p2, h1, h2⟩ := hi.lt (hL _ hm); rw [hloc] at h1; injection h1 with h1; injection h1 with h1 h3; subst h1; exact h2
    have hget : ∀ (j : Nat) (x : T), (((l.drop o).take n).map bT)[j]? = some x → (l.map bT)[o + j]? = some x ∧ x.cells = [x] := by
      intro j x hx
      have hj : j < n := by have := (List.getElem?_eq_some_iff.1 hx).1; simp at this; omega
      rw [List.getElem?_map, List.getElem?_take, if_pos hj, List.getElem?_drop] at hx
      rw [List.getElem?_map]
      refine ⟨hx, ?_⟩
      cases hq : l[o + j]? with
      | none => rw [hq] at hx; cases hx
      | some y => rw [hq] at hx; injection hx with hx; subst hx; rfl
    refine .sl b (p + o) c 1 .no _ n (by simp; omega) hc trivial (fun j x hx => by rw [(hget j x hx).2]; rfl) (fun j x k y hx hy => ?_) (fun j x k y u hx hy hu => ?_)
    · obtain ⟨h1, h2⟩ := hget j x hx
      rw [h2] at hy
      have hk : k = 0 := by have := (List.getElem?_eq_some_iff.1 hy).1; simp at this; exact this
      subst hk
      obtain ⟨u, hu, _⟩ := hcells _ _ h1
      exact ⟨imm_stN hlt, u, by rw [show p + o + j * 1 + 0 = p + (o + j) by omega]; exact hu⟩
    · obtain ⟨h1, h2⟩ := hget j x hx
      rw [h2] at hy
      have hk : k = 0 := by have := (List.getElem?_eq_some_iff.1 hy).1; simp at this; exact this
      subst hk
      simp at hy; subst hy
      obtain ⟨u', hu', hr'⟩ := hcells _ _ h1
      rw [show p + o + j * 1 + 0 = p + (o + j) by omega, hu'] at hu
      injection hu with hu; subst hu
      exact Lends.refl (L0 := []) _ _ _ _ _ hi (fun x h => by cases h) hr'
def Plain (t : T) : Prop := ∀ w μ σ w' μ' σ' v, Rel w μ σ v t → Rel w' μ' σ' v t
theorem Plain.int (k : IntKind) (n : Int) : Plain (.int k n) := fun w μ σ w' μ' σ' v h => by cases h; exact .int k n
theorem Plain.bool (b : Bool) : Plain (.bool b) := fun w μ σ w' μ' σ' v h => by cases h; exact .bool b
theorem Plain.tup {cs : List T} (h : ∀ c ∈ cs, Plain c) : Plain (.tup cs) := fun w μ σ w' μ' σ' v hr => by
  cases hr with
  | tup cs vs hn r => exact .tup cs vs hn fun j c v hc hv => h c (List.mem_of_getElem? hc) _ _ _ _ _ _ _ (r j c v hc hv)
def win (l : List UInt8) (o m : Nat) : List UInt8 := (l.drop o).take m
theorem win_len {l : List UInt8} {o m : Nat} (h : o + m ≤ l.length) : (win l o m).length = m := by unfold win; simp; omega
theorem win_get {l : List UInt8} {o m j : Nat} (h : j < m) : (win l o m).getD j default = l.getD (o + j) default := by
  unfold win; simp only [List.getD, List.getElem?_take, if_pos h, List.getElem?_drop]
@[reducible] def tvT (i o m : Nat) : T := .aref 1 i o m (some (m + 3))
theorem chunks_map1 : ∀ (n : Nat) (q : List UInt8), q.length = n → chunks 1 n (q.map bT) = q.map bT := by
  intro n
  induction n with
  | zero => intro q hq; rw [List.length_eq_zero_iff.1 hq]; rfl
  | succ n ih =>
    intro q hq
    cases q with
    | nil => simp at hq
    | cons c q =>
      have e := ih q (by simpa using hq)
      simp only [List.map_cons, chunks, List.headD_cons, List.drop_succ_cons, List.drop_zero, show Nat.beq 1 1 = true from rfl, cond_true]
      rw [e]
theorem r_app0O {x y : Operand} {t1 t2 : TypeId} {e i o n : Nat} {cap : Option Nat} {i1 i2 ie : TI} {l : List UInt8} (hG : Fits P G)
    (hx : Ad a x = some (.sl 1 .full [])) (hnx : σ.nx = none) (h1 : G t1 = some i1) (h1d : i1.d = .slice e) (he : G e = some ie) (h2 : G t2 = some i2) (h2d : ∃ e2, i2.d = .slice e2)
    (hy : Ad a y = some (.aref 1 i o n cap)) (hob : (i, Ob.cells (l.map bT)) ∈ σ.L) (hn : o + n ≤ l.length) (hsz : (Nat.beq 1 ie.size && Nat.blt 0 1 && Nat.ble ie.bytes 4096) = true) (hd : Ai N (some d) = true) (hlen : n ≤ 4294967296)
    (k : ∀ k', K (put a (some d) (.sl 1 (.tok k') ((win l o n).map bT))) { σ with R := k' :: σ.R }) : AOp P N ⟨some d, .call ⟨.builtin .append, #[x, y], #[t1, t2]⟩, ty, pos, af, gd⟩ a σ K := by
  have hsc : ∀ q : List UInt8, (q.map bT).all T.scalar = true := fun q => by simp [List.all_map, bT, T.scalar]
  have hch : chunks 1 n (((l.map bT).drop o).take (n * 1)) = (win l o n).map bT := by
    rw [Nat.mul_one, ← List.map_drop, ← List.map_take]
    exact chunks_map1 n _ (win_len hn)
  refine aop_append0L (xs := []) (ys := (win l o n).map bT) (sz := 1) hG rfl h1 h1d he h2 h2d hx rfl rfl hy (objs := fun j => if j = i then some (.cells (l.map bT)) else none) ?_ ?_ hsz hnx ?_ ?_ hd k
  · intro j o h
    split at h
    · rename_i hj; subst hj; injection h with h; subst h; exact hob
    · cases h
  · have hb : (Nat.ble (o + n * 1) (l.map bT).length && (((l.map bT).drop o).take (n * 1)).all T.scalar) = true := by
      rw [Bool.and_eq_true]
      refine ⟨Nat.ble_eq_true_of_le (by simp; omega), ?_⟩
      rw [← List.map_drop, ← List.map_take]; exact hsc _
    simp only [srcOf, show Nat.beq 1 1 = true from rfl, cond_true, if_true, hb, hch]
  · exact enc_scal bT (win l o n)
  · simp only [List.length_nil, List.length_map, win_len hn]; omega
theorem r_tvB {t : TypeId} {x : Operand} {i p : Nat} {ti : TI} {l : List UInt8} (hG : Fits P G) (hx : Ad a x = some (.ptr i p)) (hob : Has σ.L i (.cells (l.map bT))) (ht : G t = some ti) (hag : ti.d.agg = false)
    (hp : p < l.length) (hd : Ai N (some d) = true) (kk : K (put a (some d) (bT (l.getD p default))) σ) : AOp P N ⟨some d, .load t x, ty, pos, af, gd⟩ a σ K := by
  refine r_ldM hG hx hob ?_ hd kk
  simp [readT, ht, hag, hp, List.getD]
end
end Go.Ts
set_option maxHeartbeats 4000000
namespace Go.Proofs.Ythfgocinlbogeaa
open Go.Ts
set_option linter.unusedSimpArgs false
set_option linter.unusedVariables false
set_option linter.unnecessarySimpa false
attribute [local irreducible] Go.Ts.AW Go.Ts.AOps Go.Ts.AL Go.Ts.AOp Go.Ts.ACalls Go.Ts.DL Go.Ts.DQ0 Go.Ts.EL
def twL (b : List UInt8) : List UInt8 := b ++ [0xe5, 0xe5, 0xe5]
structure TwX (b : List UInt8) where
  i : Nat
  l : List UInt8
  hi : i ≤ b.length + 3
  h0 : b.length ≤ i
  hl : l = b ++ List.replicate (i - b.length) 0xe5 ++ List.replicate (b.length + 3 - i) 0
theorem law_Twin {b : List UInt8} (hb : b.length ≤ 4294967000) : OnL Try.prog 11 [sT b] [] (fun u L => ∃ i, u = .aref 1 i 0 b.length (some (b.length + 3)) ∧ L = [(i, .cells ((twL b).map bT))]) := by
  intro off
  refine Af (N := 27) (rs := [.tmp 2]) hG Try.func11 rfl rfl rfl rfl rfl ?_
  repeat' (first | (show AL _ _ _ _ _ _ _ _; first | (refine Ac Y ?_; (first | (show AOp _ _ ⟨_, .load _ _, _, _, _, _⟩ _ _ _; first | refine r_ldB (f := bT) 0 hG Y Y Y Y (by first | omega | (simp; omega)) Y ?_ | refine r_ldB (f := bT) 1 hG Y Y Y Y (by first | omega | (simp; omega)) Y ?_ | refine r_ldB (f := bT) 2 hG Y Y Y Y (by first | omega | (simp; omega)) Y ?_) | refine r_slC hG Y Y Y Y Y Y Y (by first | omega | (simp; omega)) ?_)) | refine so2 ?_) | (show AW _ _ _ _ _ _; first | (show AW _ _ (.region _ _ _) _ _ _; refine sc0 ?_; intro O1) | (refine sc1 ?_; try intro Q1)) | (show (_ → _) ∧ _; refine ⟨fun h => ?_, fun h => ?_⟩) | fail)
  refine Ac rfl (r_mkB (z := b.length + 3) hG rfl rfl rfl rfl rfl rfl rfl rfl rfl (by omega) (fun i => ?_))
  repeat' (first | (show AL _ _ _ _ _ _ _ _; (fail_if_success show AL _ _ _ _ _ (⟨_, .call ⟨.builtin .copy, _, _⟩, _, _, _, _⟩ :: _) _ _); first | (refine Ac Y ?_; (first | (show AOp _ _ ⟨_, .load _ _, _, _, _, _⟩ _ _ _; first | refine r_ldB (f := bT) 0 hG Y Y Y Y (by first | omega | (simp; omega)) Y ?_ | refine r_ldB (f := bT) 1 hG Y Y Y Y (by first | omega | (simp; omega)) Y ?_ | refine r_ldB (f := bT) 2 hG Y Y Y Y (by first | omega | (simp; omega)) Y ?_) | refine r_slC hG Y Y Y Y Y Y Y (by first | omega | (simp; omega)) ?_)) | refine so2 ?_) | (show AW _ _ _ _ _ _; first | (show AW _ _ (.region _ _ _) _ _ _; refine sc0 ?_; intro O1) | (refine sc1 ?_; try intro Q1)) | (show (_ → _) ∧ _; refine ⟨fun h => ?_, fun h => ?_⟩) | fail)
  refine Ac rfl (aop_copyL (n := 0) (ys := b.map bT) hG rfl rfl rfl rfl rfl rfl rfl rfl (by simp [List.all_map, bT, T.scalar]) rfl ⟨by simp, by simp⟩ rfl ?_)
  repeat' (first | (show AL _ _ _ _ _ _ _ _; first | (refine Ac Y ?_; (first | (show AOp _ _ ⟨_, .load _ _, _, _, _, _⟩ _ _ _; first | refine r_ldB (f := bT) 0 hG Y Y Y Y (by first | omega | (simp; omega)) Y ?_ | refine r_ldB (f := bT) 1 hG Y Y Y Y (by first | omega | (simp; omega)) Y ?_ | refine r_ldB (f := bT) 2 hG Y Y Y Y (by first | omega | (simp; omega)) Y ?_) | refine r_slC hG Y Y Y Y Y Y Y (by first | omega | (simp; omega)) ?_)) | refine so2 ?_) | (show AW _ _ _ _ _ _; first | (show AW _ _ (.region _ _ _) _ _ _; refine sc0 ?_; intro O1) | (refine sc1 ?_; try intro Q1)) | (show (_ → _) ∧ _; refine ⟨fun h => ?_, fun h => ?_⟩) | fail)
  have e0 : Go.Ts.stored ((List.replicate (b.length + 3) (0 : UInt8)).map bT) (b.map bT) 0 = (b ++ List.replicate 3 0).map bT := by
    unfold Go.Ts.stored
    simp
  refine A5 (X := TwX b) (fun x => [(0, sT b), (3, .aref 1 i 0 (b.length + 3) (some (b.length + 3))), (4, .int .i64 (x.i : Int))]) (fun x => ⟨[(i, .cells (x.l.map bT))], [], off, none⟩) (fun x => b.length + 3 - x.i) ⟨b.length, b ++ List.replicate 3 0, by omega, Nat.le_refl _, by simp⟩ (by repeat (first | exact .nil _ | refine .cons rfl ?_)) (by
    show Go.Ts.GStep ⟨[(i, .cells (Go.Ts.stored ((List.replicate (b.length + 3) (0 : UInt8)).map bT) (b.map bT) 0))], [], off, none⟩ _
    rw [e0]; exact .refl _) ?_
  rintro ⟨q, l, hi, h0, hl⟩
  have hll : l.length = b.length + 3 := by rw [hl]; simp; omega
  dsimp only
  by_cases hq : q < b.length + 3
  · repeat' (first | (show AL _ _ _ _ _ _ _ _; (fail_if_success show AL _ _ _ _ _ (⟨_, .store _ _ _, _, _, _, _⟩ :: _) _ _); first | (refine Ac Y ?_; (first | (show AOp _ _ ⟨_, .load _ _, _, _, _, _⟩ _ _ _; first | refine r_ldB (f := bT) 0 hG Y Y Y Y (by first | omega | (simp; omega)) Y ?_ | refine r_ldB (f := bT) 1 hG Y Y Y Y (by first | omega | (simp; omega)) Y ?_ | refine r_ldB (f := bT) 2 hG Y Y Y Y (by first | omega | (simp; omega)) Y ?_) | refine r_slC hG Y Y Y Y Y Y Y (by first | omega | (simp; omega)) ?_)) | refine so2 ?_) | (show AW _ _ _ _ _ _; first | (show AW _ _ (.region _ _ _) _ _ _; refine sc0 ?_; intro O1) | (refine sc1 ?_; try intro Q1)) | (show (_ → _) ∧ _; refine ⟨fun h => ?_, fun h => ?_⟩) | fail)
    refine Ac rfl (r_stB 0 (l := l) (0xe5 : UInt8) hG rfl rfl rfl bT_cells bT_sc rfl rfl (by omega) ?_)
    repeat' (first | (show AL _ _ _ _ _ _ _ _; first | (refine Ac Y ?_; (first | (show AOp _ _ ⟨_, .load _ _, _, _, _, _⟩ _ _ _; first | refine r_ldB (f := bT) 0 hG Y Y Y Y (by first | omega | (simp; omega)) Y ?_ | refine r_ldB (f := bT) 1 hG Y Y Y Y (by first | omega | (simp; omega)) Y ?_ | refine r_ldB (f := bT) 2 hG Y Y Y Y (by first | omega | (simp; omega)) Y ?_) | refine r_slC hG Y Y Y Y Y Y Y (by first | omega | (simp; omega)) ?_)) | refine so2 ?_) | (show AW _ _ _ _ _ _; first | (show AW _ _ (.region _ _ _) _ _ _; refine sc0 ?_; intro O1) | (refine sc1 ?_; try intro Q1)) | (show (_ → _) ∧ _; refine ⟨fun h => ?_, fun h => ?_⟩) | fail)
    exact ⟨⟨q + 1, l.set q 0xe5, by omega, by omega, by
      rw [hl, show b.length + 3 - q = (b.length + 3 - (q + 1)) + 1 by omega, List.replicate_succ, show q + 1 - b.length = (q - b.length) + 1 by omega, List.replicate_succ']
      rw [List.set_append_right _ _ (by simp; omega)]
      simp [show q - (b.length + (q - b.length)) = 0 by omega]⟩, by dsimp only; omega, (by repeat (first | exact .nil _ | refine .cons rfl ?_)), .refl _⟩
  · obtain rfl : q = b.length + 3 := by omega
    repeat' (first | (show AL _ _ _ _ _ _ _ _; first | (refine Ac Y ?_; (first | (show AOp _ _ ⟨_, .load _ _, _, _, _, _⟩ _ _ _; first | refine r_ldB (f := bT) 0 hG Y Y Y Y (by first | omega | (simp; omega)) Y ?_ | refine r_ldB (f := bT) 1 hG Y Y Y Y (by first | omega | (simp; omega)) Y ?_ | refine r_ldB (f := bT) 2 hG Y Y Y Y (by first | omega | (simp; omega)) Y ?_) | refine r_slC hG Y Y Y Y Y Y Y (by first | omega | (simp; omega)) ?_)) | refine so2 ?_) | (show AW _ _ _ _ _ _; first | (show AW _ _ (.region _ _ _) _ _ _; refine sc0 ?_; intro O1) | (refine sc1 ?_; try intro Q1)) | (show (_ → _) ∧ _; refine ⟨fun h => ?_, fun h => ?_⟩) | fail)
    have e1 : l = twL b := by rw [hl, Nat.sub_self, show b.length + 3 - b.length = 3 by omega]; simp [twL]
    rw [e1]
    exact Az (Ae rfl Ag) (.refl _) (.refl _) (.refl _) rfl ⟨i, rfl, rfl⟩
theorem twL_take (b : List UInt8) : (twL b).take b.length = b := by simp [twL]
structure KeX (b : List UInt8) where
  i : Nat
  hi : i ≤ b.length + 3
  h0 : b.length ≤ i
set_option maxHeartbeats 9000000 in
theorem law_Kept {b : List UInt8} (hb : b.length ≤ 4294967000) (i : Nat) : OnL Try.prog 13 [.aref 1 i 0 b.length (some (b.length + 3)), sT b] [(i, .cells ((twL b).map bT))] (fun u L => u = .bool true ∧ L = [(i, .cells ((twL b).map bT))]) := by
  have hl : (twL b).length = b.length + 3 := by simp [twL]
  intro off
  refine Af (N := 38) (rs := [.tmp 4]) hG Try.func13 rfl rfl rfl rfl rfl ?_
  repeat' (first | (show AL _ _ _ _ _ _ _ _; (fail_if_success show AL _ _ _ _ _ (⟨_, .convert _ _ _, _, _, _, _⟩ :: _) _ _); first | (refine Ac Y ?_; (first | (show AOp _ _ ⟨_, .load _ _, _, _, _, _⟩ _ _ _; first | refine r_ldB (f := bT) 0 hG Y Y Y Y (by first | omega | (simp; omega)) Y ?_ | refine r_ldB (f := bT) 1 hG Y Y Y Y (by first | omega | (simp; omega)) Y ?_ | refine r_ldB (f := bT) 2 hG Y Y Y Y (by first | omega | (simp; omega)) Y ?_) | refine r_slC hG Y Y Y Y Y Y Y (by first | omega | (simp; omega)) ?_)) | refine so2 ?_) | (show AW _ _ _ _ _ _; first | (show AW _ _ (.region _ _ _) _ _ _; refine sc0 ?_; intro O1) | (refine sc1 ?_; try intro Q1)) | (show (_ → _) ∧ _; refine ⟨fun h => ?_, fun h => ?_⟩) | fail)
  refine Ac rfl (r_tostrL 0 (l := twL b) hG rfl rfl rfl rfl rfl rfl rfl rfl (by omega) rfl ?_)
  rw [twL_take]
  have h3 : ¬ ((b.length + 3 : Nat) : Int) < (b.length : Int) + 3 := by omega
  repeat' (first | (show AL _ _ _ _ _ _ _ _; first | (refine Ac Y ?_; (first | (show AOp _ _ ⟨_, .load _ _, _, _, _, _⟩ _ _ _; first | refine r_ldB (f := bT) 0 hG Y Y Y Y (by first | omega | (simp; omega)) Y ?_ | refine r_ldB (f := bT) 1 hG Y Y Y Y (by first | omega | (simp; omega)) Y ?_ | refine r_ldB (f := bT) 2 hG Y Y Y Y (by first | omega | (simp; omega)) Y ?_) | refine r_slC hG Y Y Y Y Y Y Y (by first | omega | (simp; omega)) ?_)) | refine so2 ?_) | (show AW _ _ _ _ _ _; first | (show AW _ _ (.region _ _ _) _ _ _; refine sc0 ?_; intro O1) | (refine sc1 ?_; try intro Q1)) | (show (_ → _) ∧ _; refine ⟨fun h => ?_, fun h => ?_⟩) | fail)
  refine A5 (X := KeX b) (fun x => [(1, sT b), (5, .aref 1 i 0 (b.length + 3) (some (b.length + 3))), (6, .int .i64 (x.i : Int))]) (fun x => ⟨[(i, .cells ((twL b).map bT))], [], off, none⟩) (fun x => b.length + 3 - x.i) ⟨b.length, by omega, Nat.le_refl _⟩ (by repeat (first | exact .nil _ | refine .cons rfl ?_)) (.refl _) ?_
  rintro ⟨q, hi, h0⟩
  dsimp only
  by_cases hq : q < b.length + 3
  · have hg : (((twL b).getD q default).toNat : Int) = 229 := by
      have : (twL b).getD q default = 0xe5 := by
        unfold twL
        simp only [List.getD]
        rw [List.getElem?_append_right h0]
        rcases (show q - b.length = 0 ∨ q - b.length = 1 ∨ q - b.length = 2 by omega) with e | e | e <;> rw [e] <;> rfl
      rw [this]; rfl
    repeat' (first | (show AL _ _ _ _ _ _ _ _; first | (refine Ac Y ?_; (first | (show AOp _ _ ⟨_, .load _ _, _, _, _, _⟩ _ _ _; first | refine r_ldB (f := bT) 0 hG Y Y Y Y (by first | omega | (simp; omega)) Y ?_ | refine r_ldB (f := bT) 1 hG Y Y Y Y (by first | omega | (simp; omega)) Y ?_ | refine r_ldB (f := bT) 2 hG Y Y Y Y (by first | omega | (simp; omega)) Y ?_) | refine r_slC hG Y Y Y Y Y Y Y (by first | omega | (simp; omega)) ?_)) | refine so2 ?_) | (show AW _ _ _ _ _ _; first | (show AW _ _ (.region _ _ _) _ _ _; refine sc0 ?_; intro O1) | (refine sc1 ?_; try intro Q1)) | (show (_ → _) ∧ _; refine ⟨fun h => ?_, fun h => ?_⟩) | fail)
    exact ⟨⟨q + 1, by omega, by omega⟩, by dsimp only; omega, (by repeat (first | exact .nil _ | refine .cons rfl ?_)), .refl _⟩
  · repeat' (first | (show AL _ _ _ _ _ _ _ _; first | (refine Ac Y ?_; (first | (show AOp _ _ ⟨_, .load _ _, _, _, _, _⟩ _ _ _; first | refine r_ldB (f := bT) 0 hG Y Y Y Y (by first | omega | (simp; omega)) Y ?_ | refine r_ldB (f := bT) 1 hG Y Y Y Y (by first | omega | (simp; omega)) Y ?_ | refine r_ldB (f := bT) 2 hG Y Y Y Y (by first | omega | (simp; omega)) Y ?_) | refine r_slC hG Y Y Y Y Y Y Y (by first | omega | (simp; omega)) ?_)) | refine so2 ?_) | (show AW _ _ _ _ _ _; first | (show AW _ _ (.region _ _ _) _ _ _; refine sc0 ?_; intro O1) | (refine sc1 ?_; try intro Q1)) | (show (_ → _) ∧ _; refine ⟨fun h => ?_, fun h => ?_⟩) | fail)
    exact Az (Ae rfl Ag) (.refl _) (.refl _) (.refl _) rfl ⟨rfl, rfl⟩
structure SpX (c : Nat) where
  i : Nat
  l : List UInt8
  hi : i ≤ c
  hl : l.length = c
end Go.Proofs.Ythfgocinlbogeaa
set_option maxHeartbeats 4000000
namespace Go.Proofs.Ythfgocinlbogeaa
open Go.Ts Go.Sets
set_option linter.unusedSimpArgs false
set_option linter.unusedVariables false
attribute [local irreducible] Go.Ts.AW Go.Ts.AOps Go.Ts.AL Go.Ts.AOp Go.Ts.ACalls Go.Ts.DL Go.Ts.DQ Go.Ts.DQ0 Go.Ts.EL
theorem clone_t {l : List UInt8} {o n : Nat} {cap : Option Nat} (h : o + n ≤ l.length) (hl : n ≤ 4294967296) (i : Nat) : OwnsL Try.prog 44 [.aref 1 i o n cap] [(i, .cells (l.map bT))] 1 ((win l o n).map bT) := by
  intro off
  refine Af (N := 8) (rs := [.tmp 2]) hG Try.func44 rfl rfl rfl rfl rfl ?_
  repeat' (first | (show AL _ _ _ _ _ _ _ _; first | refine so2 ?_ | (refine sa ?_; intro k)) | (show AW _ _ _ _ _ _; first | (show AW _ _ (.region _ _ _) _ _ _; refine sc0 ?_; intro O1) | (refine sc1 ?_; try intro Q1)) | (show (_ → _) ∧ _; refine ⟨fun h => ?_, fun h => ?_⟩) | fail)
  refine Ac rfl (r_nilA hG rfl rfl rfl ?_)
  repeat' (first | (show AL _ _ _ _ _ _ _ _; (fail_if_success show AL _ _ _ _ _ (⟨_, .call ⟨.builtin .append, _, _⟩, _, _, _, _⟩ :: _) _ _); first | refine so2 ?_ | (refine sa ?_; intro k)) | (show AW _ _ _ _ _ _; first | (show AW _ _ (.region _ _ _) _ _ _; refine sc0 ?_; intro O1) | (refine sc1 ?_; try intro Q1)) | (show (_ → _) ∧ _; refine ⟨fun h => ?_, fun h => ?_⟩) | fail)
  refine Ac rfl (r_app0O (l := l) hG rfl rfl rfl rfl rfl rfl ⟨_, rfl⟩ rfl (List.mem_singleton.2 rfl) h rfl rfl hl (fun k => ?_))
  repeat' (first | (show AL _ _ _ _ _ _ _ _; first | refine so2 ?_ | (refine sa ?_; intro k)) | (show AW _ _ _ _ _ _; first | (show AW _ _ (.region _ _ _) _ _ _; refine sc0 ?_; intro O1) | (refine sc1 ?_; try intro Q1)) | (show (_ → _) ∧ _; refine ⟨fun h => ?_, fun h => ?_⟩) | fail)
  exact ret_ownsL 0 (Ae rfl Ag) rfl rfl rfl rfl
end Go.Proofs.Ythfgocinlbogeaa
namespace Go.Proofs.Ythfgocinlbogeaa
open Go.Ts
set_option linter.unusedSimpArgs false
set_option linter.unusedVariables false
abbrev PR := UInt16 × UInt8
def pT (p : PR) : T := .agg [hT p.1, bT p.2]
instance : Enc pT 2 := ⟨fun x c h => by simp [pT, T.cells] at h; rcases h with rfl | rfl <;> rfl, fun x => rfl⟩
end Go.Proofs.Ythfgocinlbogeaa
set_option maxHeartbeats 4000000
namespace Go.Ts
set_option linter.unusedSimpArgs false
set_option linter.unusedVariables false
section
variable {P : Program} {G : Nat → Option TI} {N : Nat} {σ : St} {a : Env} {K : Env → St → Prop} {d : Tmp} {ty : TypeId} {pos : String} {af : Array Edge} {gd : Option (Nat × Bool)}
theorem r_tvI {t : TypeId} {x ix : Operand} {k : IntKind} {zi : Int} {z e i o m : Nat} {ti te : TI} (hG : Fits P G)
    (hx : Ad a x = some (tvT i o m)) (hn : Ad a ix = some (.int k zi)) (hz : zi = ((z : Nat) : Int)) (ht : G t = some ti) (htd : ti.d = .slice e) (hte : G e = some te) (hsz : Nat.beq 1 te.size = true) (hd : Ai N (some d) = true)
    (h0 : z < m) (kk : K (put a (some d) (.ptr i (o + z))) σ) : AOp P N ⟨some d, .indexAddr t x ix, ty, pos, af, gd⟩ a σ K := by
  subst hz
  have h1 : 1 = te.size := Nat.eq_of_beq_eq_true hsz
  refine op_q hG (t := .ptr i (o + z)) ?_ rfl hd kk
  obtain ⟨d1, s1, s2, s3⟩ := ti
  simp only at htd; subst htd
  have h2 : sizeT G e = some 1 := by simp [sizeT, hte, ← h1]
  simp only [Av, hx, hn, ht, h2]
  simp [h0]
theorem r_tvW {t : TypeId} {x : Operand} {i o m z : Nat} {ti : TI} {l b : List UInt8} (hG : Fits P G) (hb : win l o m = b) (hx : Ad a x = some (.ptr i (o + z))) (hob : Has σ.L i (.cells (l.map bT))) (ht : G t = some ti) (hag : ti.d.agg = false)
    (h : o + m ≤ l.length) (hz : z < m) (hd : Ai N (some d) = true) (kk : K (put a (some d) (bT (b.getD z default))) σ) : AOp P N ⟨some d, .load t x, ty, pos, af, gd⟩ a σ K := by
  subst hb
  rw [win_get hz] at kk
  exact r_tvB hG hx hob ht hag (by omega) hd kk
end
end Go.Ts
namespace Go.Proofs.Ythfgocinlbogeaa
open Go.Ts
set_option linter.unusedSimpArgs false
set_option linter.unusedVariables false
attribute [local irreducible] Go.Ts.AW Go.Ts.AOps Go.Ts.AL Go.Ts.AOp Go.Ts.ACalls Go.Ts.DL Go.Ts.DQ Go.Ts.EL
end Go.Proofs.Ythfgocinlbogeaa
