/- Part of the proof of the law ArenaAll: the texts AV, TsU, KA, AQ, RF, TsS, RG, RH, RI, TsT, RJ, RK, RL, RM. No conditions. -/
import Derived.Test.YthfgocinlbogeaaArenaAllE
import Derived.Lib.ConvBytes
import Derived.Laws.AppendOwn
set_option linter.unusedSimpArgs false
set_option linter.unusedVariables false
set_option maxHeartbeats 4000000
namespace Go.Proofs.Ythfgocinlbogeaa
open Go.Ts
set_option linter.unusedSimpArgs false
set_option linter.unusedVariables false
attribute [local irreducible] Go.Ts.AW Go.Ts.AOps Go.Ts.AL Go.Ts.AOp Go.Ts.ACalls Go.Ts.DL Go.Ts.DQ Go.Ts.DQ0 Go.Ts.EL
theorem arena_Put_no_v (v : UInt8) (l : List SB) (at' : List (Nat × Int)) {id o mm : Nat} {lr b : List UInt8} (h : o + mm ≤ lr.length) (hm : mm ≤ 4294967296) (hbb : win lr o mm = b) (hp : putsB v b = false) (p i m tw : Nat) :
    OnL Try.prog 32 [.ptr p 0, .int .u64 (id : Int), tvT tw o mm] ((tw, .cells (lr.map bT)) :: arL v l at' p i m) (fun u L => u = .int .i64 1 ∧ L = (tw, .cells (lr.map bT)) :: arL v l at' p i m) := by
  unfold putsB at hp
  have hbl : b.length = mm := by rw [← hbb, win_len h]
  intro off
  by_cases h0 : 0 < mm
  · rw [decide_eq_true (by omega), Bool.true_and] at hp
    have h1 : ¬ b.getD 0 default = v := of_decide_eq_false hp
    have h2 : ¬ (((b.getD 0 default).toNat : Int) = ((v.toNat : Nat) : Int)) := fun e => h1 (UInt8.toNat_inj.1 (by omega))
    refine Af (N := 73) (rs := [.tmp 6]) hG Try.func32 rfl rfl rfl rfl rfl ?_
    repeat' (first | (show AL _ _ _ _ _ _ _ _; first | (refine Ac Y ?_; (first | (show AOp _ _ ⟨_, .indexAddr _ _ _, _, _, _, _⟩ _ _ _; refine Ak (sz := 4) hG Y Y Y Y Y Y Y (by omega) ?_) | (show AOp _ _ ⟨_, .load _ _, _, _, _, _⟩ _ _ _; first | refine Ab 0 sbT hG Y Y Y Y Y (by omega) Y ?_ | refine Aa 0 sbT hG Y Y Y Y Y (by omega) Y ?_ | refine Ab 1 sbT hG Y Y Y Y Y (by omega) Y ?_ | refine Aa 1 sbT hG Y Y Y Y Y (by omega) Y ?_ | refine Ab 2 sbT hG Y Y Y Y Y (by omega) Y ?_ | refine Aa 2 sbT hG Y Y Y Y Y (by omega) Y ?_ | refine Ab 3 sbT hG Y Y Y Y Y (by omega) Y ?_ | refine Aa 3 sbT hG Y Y Y Y Y (by omega) Y ?_))) | refine so2 ?_) | (show DL _ _ _ _ _ _ _; first | (refine' Ap Y Y (fun K kk => ?_) ?_; (try (show Go.Ts.T; rotate_left)); (first | (show AOp _ _ ⟨_, .indexAddr _ _ _, _, _, _, _⟩ _ _ _; refine Ak (sz := 4) hG Y Y Y Y Y Y Y (by omega) ?_) | (show AOp _ _ ⟨_, .load _ _, _, _, _, _⟩ _ _ _; first | refine Ab 0 sbT hG Y Y Y Y Y (by omega) Y ?_ | refine Aa 0 sbT hG Y Y Y Y Y (by omega) Y ?_ | refine Ab 1 sbT hG Y Y Y Y Y (by omega) Y ?_ | refine Aa 1 sbT hG Y Y Y Y Y (by omega) Y ?_ | refine Ab 2 sbT hG Y Y Y Y Y (by omega) Y ?_ | refine Aa 2 sbT hG Y Y Y Y Y (by omega) Y ?_ | refine Ab 3 sbT hG Y Y Y Y Y (by omega) Y ?_ | refine Aa 3 sbT hG Y Y Y Y Y (by omega) Y ?_)); exact kk) | refine do2 ?_) | (show AW _ _ _ _ _ _; first | (show AW _ _ (.region _ _ _) _ _ _; refine sc0 ?_; intro O1) | (refine sc1 ?_; try intro Q1)) | (show (_ → _) ∧ _; refine ⟨fun h => ?_, fun h => ?_⟩) | fail)
    refine' Ap rfl rfl (fun K kk => r_tvI (z := 0) hG rfl rfl rfl rfl rfl rfl rfl rfl (by omega) kk) ?_
    refine' Ap rfl rfl (fun K kk => r_tvW (z := 0) hG hbb rfl hs rfl rfl h (by omega) rfl kk) ?_
    repeat' (first | (show AL _ _ _ _ _ _ _ _; first | (refine Ac Y ?_; (first | (show AOp _ _ ⟨_, .indexAddr _ _ _, _, _, _, _⟩ _ _ _; refine Ak (sz := 4) hG Y Y Y Y Y Y Y (by omega) ?_) | (show AOp _ _ ⟨_, .load _ _, _, _, _, _⟩ _ _ _; first | refine Ab 0 sbT hG Y Y Y Y Y (by omega) Y ?_ | refine Aa 0 sbT hG Y Y Y Y Y (by omega) Y ?_ | refine Ab 1 sbT hG Y Y Y Y Y (by omega) Y ?_ | refine Aa 1 sbT hG Y Y Y Y Y (by omega) Y ?_ | refine Ab 2 sbT hG Y Y Y Y Y (by omega) Y ?_ | refine Aa 2 sbT hG Y Y Y Y Y (by omega) Y ?_ | refine Ab 3 sbT hG Y Y Y Y Y (by omega) Y ?_ | refine Aa 3 sbT hG Y Y Y Y Y (by omega) Y ?_))) | refine so2 ?_) | (show DL _ _ _ _ _ _ _; first | (refine' Ap Y Y (fun K kk => ?_) ?_; (try (show Go.Ts.T; rotate_left)); (first | (show AOp _ _ ⟨_, .indexAddr _ _ _, _, _, _, _⟩ _ _ _; refine Ak (sz := 4) hG Y Y Y Y Y Y Y (by omega) ?_) | (show AOp _ _ ⟨_, .load _ _, _, _, _, _⟩ _ _ _; first | refine Ab 0 sbT hG Y Y Y Y Y (by omega) Y ?_ | refine Aa 0 sbT hG Y Y Y Y Y (by omega) Y ?_ | refine Ab 1 sbT hG Y Y Y Y Y (by omega) Y ?_ | refine Aa 1 sbT hG Y Y Y Y Y (by omega) Y ?_ | refine Ab 2 sbT hG Y Y Y Y Y (by omega) Y ?_ | refine Aa 2 sbT hG Y Y Y Y Y (by omega) Y ?_ | refine Ab 3 sbT hG Y Y Y Y Y (by omega) Y ?_ | refine Aa 3 sbT hG Y Y Y Y Y (by omega) Y ?_)); exact kk) | refine do2 ?_) | (show AW _ _ _ _ _ _; first | (show AW _ _ (.region _ _ _) _ _ _; refine sc0 ?_; intro O1) | (refine sc1 ?_; try intro Q1)) | (show (_ → _) ∧ _; refine ⟨fun h => ?_, fun h => ?_⟩) | fail)
    exact Az (Ae rfl Ag) (.refl _) (.refl _) (.refl _) rfl ⟨rfl, rfl⟩
  · obtain rfl : mm = 0 := by omega
    refine Af (N := 73) (rs := [.tmp 6]) hG Try.func32 rfl rfl rfl rfl rfl ?_
    repeat' (first | (show AL _ _ _ _ _ _ _ _; first | (refine Ac Y ?_; (first | (show AOp _ _ ⟨_, .indexAddr _ _ _, _, _, _, _⟩ _ _ _; refine Ak (sz := 4) hG Y Y Y Y Y Y Y (by omega) ?_) | (show AOp _ _ ⟨_, .load _ _, _, _, _, _⟩ _ _ _; first | refine Ab 0 sbT hG Y Y Y Y Y (by omega) Y ?_ | refine Aa 0 sbT hG Y Y Y Y Y (by omega) Y ?_ | refine Ab 1 sbT hG Y Y Y Y Y (by omega) Y ?_ | refine Aa 1 sbT hG Y Y Y Y Y (by omega) Y ?_ | refine Ab 2 sbT hG Y Y Y Y Y (by omega) Y ?_ | refine Aa 2 sbT hG Y Y Y Y Y (by omega) Y ?_ | refine Ab 3 sbT hG Y Y Y Y Y (by omega) Y ?_ | refine Aa 3 sbT hG Y Y Y Y Y (by omega) Y ?_))) | refine so2 ?_) | (show DL _ _ _ _ _ _ _; first | (refine' Ap Y Y (fun K kk => ?_) ?_; (try (show Go.Ts.T; rotate_left)); (first | (show AOp _ _ ⟨_, .indexAddr _ _ _, _, _, _, _⟩ _ _ _; refine Ak (sz := 4) hG Y Y Y Y Y Y Y (by omega) ?_) | (show AOp _ _ ⟨_, .load _ _, _, _, _, _⟩ _ _ _; first | refine Ab 0 sbT hG Y Y Y Y Y (by omega) Y ?_ | refine Aa 0 sbT hG Y Y Y Y Y (by omega) Y ?_ | refine Ab 1 sbT hG Y Y Y Y Y (by omega) Y ?_ | refine Aa 1 sbT hG Y Y Y Y Y (by omega) Y ?_ | refine Ab 2 sbT hG Y Y Y Y Y (by omega) Y ?_ | refine Aa 2 sbT hG Y Y Y Y Y (by omega) Y ?_ | refine Ab 3 sbT hG Y Y Y Y Y (by omega) Y ?_ | refine Aa 3 sbT hG Y Y Y Y Y (by omega) Y ?_)); exact kk) | refine do2 ?_) | (show AW _ _ _ _ _ _; first | (show AW _ _ (.region _ _ _) _ _ _; refine sc0 ?_; intro O1) | (refine sc1 ?_; try intro Q1)) | (show (_ → _) ∧ _; refine ⟨fun h => ?_, fun h => ?_⟩) | fail)
    exact Az (Ae rfl Ag) (.refl _) (.refl _) (.refl _) rfl ⟨rfl, rfl⟩
theorem clone_w {lr b : List UInt8} {o mm : Nat} (h : o + mm ≤ lr.length) (hm : mm ≤ 4294967296) (hbb : win lr o mm = b) (tw : Nat) : OnL Try.prog 44 [tvT tw o mm] [(tw, .cells (lr.map bT))] (fun u L => u = .sl 1 .no (b.map bT) ∧ L = [(tw, .cells (lr.map bT))]) := by
  have hc := (clone_t (cap := some (mm + 3)) h hm tw).onS
  rw [hbb] at hc
  exact hc
set_option maxHeartbeats 9000000 in
theorem arena_Put_old_v (v : UInt8) (l : List SB) (at' : List (Nat × Int)) {id j o mm : Nat} {lr b : List UInt8} (hw : o + mm ≤ lr.length) (hm : mm ≤ 4294967296) (hbb : win lr o mm = b) (hid : id < 18446744073709551616) (hp : putsB v b = true) (hk : khas at' id = true) (hj : klook at' id = ((j : Nat) : Int)) (hjl : j < l.length) (hl : l.length ≤ 1000000) (p i m tw : Nat) :
    OnL Try.prog 32 [.ptr p 0, .int .u64 (id : Int), tvT tw o mm] ((tw, .cells (lr.map bT)) :: arL v l at' p i m) (fun u L => u = .int .i64 0 ∧ L = (tw, .cells (lr.map bT)) :: arL v (l.set j (bump (l.getD j default) id hid b)) at' p i m) := by
  unfold putsB at hp
  have hbl : b.length = mm := by rw [← hbb, win_len hw]
  rw [Bool.and_eq_true, decide_eq_true_eq, decide_eq_true_eq] at hp
  obtain ⟨h0, h1⟩ := hp
  have h2 : ((b.getD 0 default).toNat : Int) = ((v.toNat : Nat) : Int) := by rw [h1]
  have hc := clone_w hw hm hbb tw
  have hne : l ≠ [] := by rintro rfl; simp at hjl
  have hne2 : l.set j (bump (l.getD j default) id hid b) ≠ [] := by simpa using hne
  rw [arL_ne hne, arL_ne hne2, List.length_set]
  intro off
  refine Af (N := 73) (rs := [.tmp 6]) hG Try.func32 rfl rfl rfl rfl rfl ?_
  repeat' (first | (show AL _ _ _ _ _ _ _ _; first | (refine Ac Y ?_; (first | (show AOp _ _ ⟨_, .indexAddr _ _ _, _, _, _, _⟩ _ _ _; refine Ak (sz := 4) hG Y Y Y Y Y Y Y (by omega) ?_) | (show AOp _ _ ⟨_, .load _ _, _, _, _, _⟩ _ _ _; first | refine Ab 0 sbT hG Y Y Y Y Y (by omega) Y ?_ | refine Aa 0 sbT hG Y Y Y Y Y (by omega) Y ?_ | refine Ab 1 sbT hG Y Y Y Y Y (by omega) Y ?_ | refine Aa 1 sbT hG Y Y Y Y Y (by omega) Y ?_ | refine Ab 2 sbT hG Y Y Y Y Y (by omega) Y ?_ | refine Aa 2 sbT hG Y Y Y Y Y (by omega) Y ?_ | refine Ab 3 sbT hG Y Y Y Y Y (by omega) Y ?_ | refine Aa 3 sbT hG Y Y Y Y Y (by omega) Y ?_))) | refine so2 ?_) | (show DL _ _ _ _ _ _ _; first | (refine' Ap Y Y (fun K kk => ?_) ?_; (try (show Go.Ts.T; rotate_left)); (first | (show AOp _ _ ⟨_, .indexAddr _ _ _, _, _, _, _⟩ _ _ _; refine Ak (sz := 4) hG Y Y Y Y Y Y Y (by omega) ?_) | (show AOp _ _ ⟨_, .load _ _, _, _, _, _⟩ _ _ _; first | refine Ab 0 sbT hG Y Y Y Y Y (by omega) Y ?_ | refine Aa 0 sbT hG Y Y Y Y Y (by omega) Y ?_ | refine Ab 1 sbT hG Y Y Y Y Y (by omega) Y ?_ | refine Aa 1 sbT hG Y Y Y Y Y (by omega) Y ?_ | refine Ab 2 sbT hG Y Y Y Y Y (by omega) Y ?_ | refine Aa 2 sbT hG Y Y Y Y Y (by omega) Y ?_ | refine Ab 3 sbT hG Y Y Y Y Y (by omega) Y ?_ | refine Aa 3 sbT hG Y Y Y Y Y (by omega) Y ?_)); exact kk) | refine do2 ?_) | (show AW _ _ _ _ _ _; first | (show AW _ _ (.region _ _ _) _ _ _; refine sc0 ?_; intro O1) | (refine sc1 ?_; try intro Q1)) | (show (_ → _) ∧ _; refine ⟨fun h => ?_, fun h => ?_⟩) | fail)
  refine' Ap rfl rfl (fun K kk => r_tvI (z := 0) hG rfl rfl rfl rfl rfl rfl rfl rfl (by omega) kk) ?_
  refine' Ap rfl rfl (fun K kk => r_tvW (z := 0) hG hbb rfl hs rfl rfl hw (by omega) rfl kk) ?_
  repeat' (first | (show AL _ _ _ _ _ _ _ _; (fail_if_success show AL _ _ _ _ _ (⟨_, .lookup _ _ _ _, _, _, _, _⟩ :: _) _ _); first | (refine Ac Y ?_; (first | (show AOp _ _ ⟨_, .indexAddr _ _ _, _, _, _, _⟩ _ _ _; refine Ak (sz := 4) hG Y Y Y Y Y Y Y (by omega) ?_) | (show AOp _ _ ⟨_, .load _ _, _, _, _, _⟩ _ _ _; first | refine Ab 0 sbT hG Y Y Y Y Y (by omega) Y ?_ | refine Aa 0 sbT hG Y Y Y Y Y (by omega) Y ?_ | refine Ab 1 sbT hG Y Y Y Y Y (by omega) Y ?_ | refine Aa 1 sbT hG Y Y Y Y Y (by omega) Y ?_ | refine Ab 2 sbT hG Y Y Y Y Y (by omega) Y ?_ | refine Aa 2 sbT hG Y Y Y Y Y (by omega) Y ?_ | refine Ab 3 sbT hG Y Y Y Y Y (by omega) Y ?_ | refine Aa 3 sbT hG Y Y Y Y Y (by omega) Y ?_))) | refine so2 ?_) | (show DL _ _ _ _ _ _ _; first | (refine' Ap Y Y (fun K kk => ?_) ?_; (try (show Go.Ts.T; rotate_left)); (first | (show AOp _ _ ⟨_, .indexAddr _ _ _, _, _, _, _⟩ _ _ _; refine Ak (sz := 4) hG Y Y Y Y Y Y Y (by omega) ?_) | (show AOp _ _ ⟨_, .load _ _, _, _, _, _⟩ _ _ _; first | refine Ab 0 sbT hG Y Y Y Y Y (by omega) Y ?_ | refine Aa 0 sbT hG Y Y Y Y Y (by omega) Y ?_ | refine Ab 1 sbT hG Y Y Y Y Y (by omega) Y ?_ | refine Aa 1 sbT hG Y Y Y Y Y (by omega) Y ?_ | refine Ab 2 sbT hG Y Y Y Y Y (by omega) Y ?_ | refine Aa 2 sbT hG Y Y Y Y Y (by omega) Y ?_ | refine Ab 3 sbT hG Y Y Y Y Y (by omega) Y ?_ | refine Aa 3 sbT hG Y Y Y Y Y (by omega) Y ?_)); exact kk) | refine do2 ?_) | (show AW _ _ _ _ _ _; first | (show AW _ _ (.region _ _ _) _ _ _; refine sc0 ?_; intro O1) | (refine sc1 ?_; try intro Q1)) | (show (_ → _) ∧ _; refine ⟨fun h => ?_, fun h => ?_⟩) | fail)
  refine Ac rfl (r_lookLo (n := 2) hj hk hG rfl rfl rfl rfl rfl rfl rfl rfl rfl rfl ?_)
  repeat' (first | (show AL _ _ _ _ _ _ _ _; first | (refine Ac Y ?_; (first | (show AOp _ _ ⟨_, .indexAddr _ _ _, _, _, _, _⟩ _ _ _; refine Ak (sz := 4) hG Y Y Y Y Y Y Y (by omega) ?_) | (show AOp _ _ ⟨_, .load _ _, _, _, _, _⟩ _ _ _; first | refine Ab 0 sbT hG Y Y Y Y Y (by omega) Y ?_ | refine Aa 0 sbT hG Y Y Y Y Y (by omega) Y ?_ | refine Ab 1 sbT hG Y Y Y Y Y (by omega) Y ?_ | refine Aa 1 sbT hG Y Y Y Y Y (by omega) Y ?_ | refine Ab 2 sbT hG Y Y Y Y Y (by omega) Y ?_ | refine Aa 2 sbT hG Y Y Y Y Y (by omega) Y ?_ | refine Ab 3 sbT hG Y Y Y Y Y (by omega) Y ?_ | refine Aa 3 sbT hG Y Y Y Y Y (by omega) Y ?_))) | refine so2 ?_) | (show DL _ _ _ _ _ _ _; first | (refine' Ap Y Y (fun K kk => ?_) ?_; (try (show Go.Ts.T; rotate_left)); (first | (show AOp _ _ ⟨_, .indexAddr _ _ _, _, _, _, _⟩ _ _ _; refine Ak (sz := 4) hG Y Y Y Y Y Y Y (by omega) ?_) | (show AOp _ _ ⟨_, .load _ _, _, _, _, _⟩ _ _ _; first | refine Ab 0 sbT hG Y Y Y Y Y (by omega) Y ?_ | refine Aa 0 sbT hG Y Y Y Y Y (by omega) Y ?_ | refine Ab 1 sbT hG Y Y Y Y Y (by omega) Y ?_ | refine Aa 1 sbT hG Y Y Y Y Y (by omega) Y ?_ | refine Ab 2 sbT hG Y Y Y Y Y (by omega) Y ?_ | refine Aa 2 sbT hG Y Y Y Y Y (by omega) Y ?_ | refine Ab 3 sbT hG Y Y Y Y Y (by omega) Y ?_ | refine Aa 3 sbT hG Y Y Y Y Y (by omega) Y ?_)); exact kk) | refine do2 ?_) | (show AW _ _ _ _ _ _; (fail_if_success show AW _ _ (.region 9 _ _) _ _ _); first | (show AW _ _ (.region _ _ _) _ _ _; refine sc0 ?_; intro O1) | (refine sc1 ?_; try intro Q1)) | (show (_ → _) ∧ _; refine ⟨fun h => ?_, fun h => ?_⟩) | fail)
  refine Bh (m := 18) [] (Cont [(tw, .cells (lr.map bT)), (p, .cells [bT v, .aref 4 i 0 l.length none, .map (some m)]), (i, .cells (flat (l.map sbT)))]) mix Y (by repeat (first | exact Sp.zero _ | apply Sp.succ)) ?_; intro O1 F1 Z1 Q2; repeat' (first | (show DQ _ _ _ _ _ _ _ _ _; first | refine ep2 ?_ | refine dq_onC hc Y Y Y Y Y Y hs ?_) | (show EL _ _ _ _ _ _ _ _ _; first | refine eqc ?_ | (refine ec ?_; intro i)) | (show (_ → _) ∧ _; refine ⟨fun h => ?_, fun h => ?_⟩) | fail)
  refine' dq_cons rfl rfl rfl (fun σ hσ K kk => Ak (sz := 4) hG rfl rfl rfl rfl rfl rfl rfl hjl kk) ?_
  repeat' (first | (show DQ _ _ _ _ _ _ _ _ _; first | refine ep2 ?_) | (show EL _ _ _ _ _ _ _ _ _; first | refine eqc ?_ | (refine ec ?_; intro i)) | (show (_ → _) ∧ _; refine ⟨fun h => ?_, fun h => ?_⟩) | fail)
  refine' dq_cons rfl rfl rfl (fun σ hσ K kk => r_ldC hσ hG rfl hs (read_flat (j := 3) hjl rfl) rfl kk) ?_
  repeat' (first | (show DQ _ _ _ _ _ _ _ _ _; first | refine ep2 ?_) | (show EL _ _ _ _ _ _ _ _ _; first | refine eqc ?_ | (refine ec ?_; intro i)) | (show (_ → _) ∧ _; refine ⟨fun h => ?_, fun h => ?_⟩) | fail)
  repeat' (first | (show AL _ _ _ _ _ _ _ _; (fail_if_success show AL _ _ _ _ _ (⟨_, .store _ _ _, _, _, _, _⟩ :: _) _ _); first | (refine Ac Y ?_; (first | (show AOp _ _ ⟨_, .indexAddr _ _ _, _, _, _, _⟩ _ _ _; refine Ak (sz := 4) hG Y Y Y Y Y Y Y (by omega) ?_) | (show AOp _ _ ⟨_, .load _ _, _, _, _, _⟩ _ _ _; first | refine Ab 0 sbT hG Y Y Y Y Y (by omega) Y ?_ | refine Aa 0 sbT hG Y Y Y Y Y (by omega) Y ?_ | refine Ab 1 sbT hG Y Y Y Y Y (by omega) Y ?_ | refine Aa 1 sbT hG Y Y Y Y Y (by omega) Y ?_ | refine Ab 2 sbT hG Y Y Y Y Y (by omega) Y ?_ | refine Aa 2 sbT hG Y Y Y Y Y (by omega) Y ?_ | refine Ab 3 sbT hG Y Y Y Y Y (by omega) Y ?_ | refine Aa 3 sbT hG Y Y Y Y Y (by omega) Y ?_))) | refine so2 ?_) | (show DL _ _ _ _ _ _ _; first | (refine' Ap Y Y (fun K kk => ?_) ?_; (try (show Go.Ts.T; rotate_left)); (first | (show AOp _ _ ⟨_, .indexAddr _ _ _, _, _, _, _⟩ _ _ _; refine Ak (sz := 4) hG Y Y Y Y Y Y Y (by omega) ?_) | (show AOp _ _ ⟨_, .load _ _, _, _, _, _⟩ _ _ _; first | refine Ab 0 sbT hG Y Y Y Y Y (by omega) Y ?_ | refine Aa 0 sbT hG Y Y Y Y Y (by omega) Y ?_ | refine Ab 1 sbT hG Y Y Y Y Y (by omega) Y ?_ | refine Aa 1 sbT hG Y Y Y Y Y (by omega) Y ?_ | refine Ab 2 sbT hG Y Y Y Y Y (by omega) Y ?_ | refine Aa 2 sbT hG Y Y Y Y Y (by omega) Y ?_ | refine Ab 3 sbT hG Y Y Y Y Y (by omega) Y ?_ | refine Aa 3 sbT hG Y Y Y Y Y (by omega) Y ?_)); exact kk) | refine do2 ?_) | (show AW _ _ _ _ _ _; first | (show AW _ _ (.region _ _ _) _ _ _; refine sc0 ?_; intro O1) | (refine sc1 ?_; try intro Q1)) | (show (_ → _) ∧ _; refine ⟨fun h => ?_, fun h => ?_⟩) | fail)
  refine Ac rfl (r_stE 3 sbT (l := l) (v := bump (l.getD j default) id hid b) (z := j) hG rfl rfl rfl rfl rfl rfl rfl hjl ?_)
  repeat' (first | (show AL _ _ _ _ _ _ _ _; first | (refine Ac Y ?_; (first | (show AOp _ _ ⟨_, .indexAddr _ _ _, _, _, _, _⟩ _ _ _; refine Ak (sz := 4) hG Y Y Y Y Y Y Y (by omega) ?_) | (show AOp _ _ ⟨_, .load _ _, _, _, _, _⟩ _ _ _; first | refine Ab 0 sbT hG Y Y Y Y Y (by omega) Y ?_ | refine Aa 0 sbT hG Y Y Y Y Y (by omega) Y ?_ | refine Ab 1 sbT hG Y Y Y Y Y (by omega) Y ?_ | refine Aa 1 sbT hG Y Y Y Y Y (by omega) Y ?_ | refine Ab 2 sbT hG Y Y Y Y Y (by omega) Y ?_ | refine Aa 2 sbT hG Y Y Y Y Y (by omega) Y ?_ | refine Ab 3 sbT hG Y Y Y Y Y (by omega) Y ?_ | refine Aa 3 sbT hG Y Y Y Y Y (by omega) Y ?_))) | refine so2 ?_) | (show DL _ _ _ _ _ _ _; first | (refine' Ap Y Y (fun K kk => ?_) ?_; (try (show Go.Ts.T; rotate_left)); (first | (show AOp _ _ ⟨_, .indexAddr _ _ _, _, _, _, _⟩ _ _ _; refine Ak (sz := 4) hG Y Y Y Y Y Y Y (by omega) ?_) | (show AOp _ _ ⟨_, .load _ _, _, _, _, _⟩ _ _ _; first | refine Ab 0 sbT hG Y Y Y Y Y (by omega) Y ?_ | refine Aa 0 sbT hG Y Y Y Y Y (by omega) Y ?_ | refine Ab 1 sbT hG Y Y Y Y Y (by omega) Y ?_ | refine Aa 1 sbT hG Y Y Y Y Y (by omega) Y ?_ | refine Ab 2 sbT hG Y Y Y Y Y (by omega) Y ?_ | refine Aa 2 sbT hG Y Y Y Y Y (by omega) Y ?_ | refine Ab 3 sbT hG Y Y Y Y Y (by omega) Y ?_ | refine Aa 3 sbT hG Y Y Y Y Y (by omega) Y ?_)); exact kk) | refine do2 ?_) | (show AW _ _ _ _ _ _; first | (show AW _ _ (.region _ _ _) _ _ _; refine sc0 ?_; intro O1) | (refine sc1 ?_; try intro Q1)) | (show (_ → _) ∧ _; refine ⟨fun h => ?_, fun h => ?_⟩) | fail)
  exact Az (Ae rfl Ag) (.refl _) (.refl _) (.refl _) rfl ⟨rfl, rfl⟩
set_option maxHeartbeats 9000000 in
theorem arena_Put_new_v (v : UInt8) (l : List SB) (at' : List (Nat × Int)) {id o mm : Nat} {lr b : List UInt8} (hw : o + mm ≤ lr.length) (hm : mm ≤ 4294967296) (hbb : win lr o mm = b) (hid : id < 18446744073709551616) (hp : putsB v b = true) (hk : khas at' id = false) (hl : l.length ≤ 999999) (p i m tw : Nat) :
    OnL Try.prog 32 [.ptr p 0, .int .u64 (id : Int), tvT tw o mm] ((tw, .cells (lr.map bT)) :: arL v l at' p i m) (fun u L => ∃ i', u = .int .i64 0 ∧ L = (tw, .cells (lr.map bT)) :: arL v ((flS l).set (fidx l) (bump ((flS l).getD (fidx l) default) id hid b)) (kset at' id (fidx l : Int)) p i' m) := by
  unfold putsB at hp
  have hbl : b.length = mm := by rw [← hbb, win_len hw]
  rw [Bool.and_eq_true, decide_eq_true_eq, decide_eq_true_eq] at hp
  obtain ⟨h0, h1⟩ := hp
  have h2 : ((b.getD 0 default).toNat : Int) = ((v.toNat : Nat) : Int) := by rw [h1]
  have hc := clone_w hw hm hbb tw
  have hf := arena_free v l at' (by omega) p i m
  obtain ⟨hjl, hfl⟩ := fidx_lt l
  generalize flS l = fl at *
  generalize fidx l = j at *
  have hne : fl ≠ [] := by rintro rfl; simp at hjl
  have hne2 : fl.set j (bump (fl.getD j default) id hid b) ≠ [] := by simpa using hne
  simp only [arL_ne hne, arL_ne hne2, List.length_set] at hf ⊢
  intro off
  refine Af (N := 73) (rs := [.tmp 6]) hG Try.func32 rfl rfl rfl rfl rfl ?_
  repeat' (first | (show AL _ _ _ _ _ _ _ _; first | (refine Ac Y ?_; (first | (show AOp _ _ ⟨_, .indexAddr _ _ _, _, _, _, _⟩ _ _ _; refine Ak (sz := 4) hG Y Y Y Y Y Y Y (by omega) ?_) | (show AOp _ _ ⟨_, .load _ _, _, _, _, _⟩ _ _ _; first | refine Ab 0 sbT hG Y Y Y Y Y (by omega) Y ?_ | refine Aa 0 sbT hG Y Y Y Y Y (by omega) Y ?_ | refine Ab 1 sbT hG Y Y Y Y Y (by omega) Y ?_ | refine Aa 1 sbT hG Y Y Y Y Y (by omega) Y ?_ | refine Ab 2 sbT hG Y Y Y Y Y (by omega) Y ?_ | refine Aa 2 sbT hG Y Y Y Y Y (by omega) Y ?_ | refine Ab 3 sbT hG Y Y Y Y Y (by omega) Y ?_ | refine Aa 3 sbT hG Y Y Y Y Y (by omega) Y ?_))) | refine so2 ?_) | (show DL _ _ _ _ _ _ _; first | (refine' Ap Y Y (fun K kk => ?_) ?_; (try (show Go.Ts.T; rotate_left)); (first | (show AOp _ _ ⟨_, .indexAddr _ _ _, _, _, _, _⟩ _ _ _; refine Ak (sz := 4) hG Y Y Y Y Y Y Y (by omega) ?_) | (show AOp _ _ ⟨_, .load _ _, _, _, _, _⟩ _ _ _; first | refine Ab 0 sbT hG Y Y Y Y Y (by omega) Y ?_ | refine Aa 0 sbT hG Y Y Y Y Y (by omega) Y ?_ | refine Ab 1 sbT hG Y Y Y Y Y (by omega) Y ?_ | refine Aa 1 sbT hG Y Y Y Y Y (by omega) Y ?_ | refine Ab 2 sbT hG Y Y Y Y Y (by omega) Y ?_ | refine Aa 2 sbT hG Y Y Y Y Y (by omega) Y ?_ | refine Ab 3 sbT hG Y Y Y Y Y (by omega) Y ?_ | refine Aa 3 sbT hG Y Y Y Y Y (by omega) Y ?_)); exact kk) | refine do2 ?_) | (show AW _ _ _ _ _ _; first | (show AW _ _ (.region _ _ _) _ _ _; refine sc0 ?_; intro O1) | (refine sc1 ?_; try intro Q1)) | (show (_ → _) ∧ _; refine ⟨fun h => ?_, fun h => ?_⟩) | fail)
  refine' Ap rfl rfl (fun K kk => r_tvI (z := 0) hG rfl rfl rfl rfl rfl rfl rfl rfl (by omega) kk) ?_
  refine' Ap rfl rfl (fun K kk => r_tvW (z := 0) hG hbb rfl hs rfl rfl hw (by omega) rfl kk) ?_
  repeat' (first | (show AL _ _ _ _ _ _ _ _; (fail_if_success show AL _ _ _ _ _ (⟨_, .lookup _ _ _ _, _, _, _, _⟩ :: _) _ _); first | (refine Ac Y ?_; (first | (show AOp _ _ ⟨_, .indexAddr _ _ _, _, _, _, _⟩ _ _ _; refine Ak (sz := 4) hG Y Y Y Y Y Y Y (by omega) ?_) | (show AOp _ _ ⟨_, .load _ _, _, _, _, _⟩ _ _ _; first | refine Ab 0 sbT hG Y Y Y Y Y (by omega) Y ?_ | refine Aa 0 sbT hG Y Y Y Y Y (by omega) Y ?_ | refine Ab 1 sbT hG Y Y Y Y Y (by omega) Y ?_ | refine Aa 1 sbT hG Y Y Y Y Y (by omega) Y ?_ | refine Ab 2 sbT hG Y Y Y Y Y (by omega) Y ?_ | refine Aa 2 sbT hG Y Y Y Y Y (by omega) Y ?_ | refine Ab 3 sbT hG Y Y Y Y Y (by omega) Y ?_ | refine Aa 3 sbT hG Y Y Y Y Y (by omega) Y ?_))) | refine so2 ?_) | (show DL _ _ _ _ _ _ _; first | (refine' Ap Y Y (fun K kk => ?_) ?_; (try (show Go.Ts.T; rotate_left)); (first | (show AOp _ _ ⟨_, .indexAddr _ _ _, _, _, _, _⟩ _ _ _; refine Ak (sz := 4) hG Y Y Y Y Y Y Y (by omega) ?_) | (show AOp _ _ ⟨_, .load _ _, _, _, _, _⟩ _ _ _; first | refine Ab 0 sbT hG Y Y Y Y Y (by omega) Y ?_ | refine Aa 0 sbT hG Y Y Y Y Y (by omega) Y ?_ | refine Ab 1 sbT hG Y Y Y Y Y (by omega) Y ?_ | refine Aa 1 sbT hG Y Y Y Y Y (by omega) Y ?_ | refine Ab 2 sbT hG Y Y Y Y Y (by omega) Y ?_ | refine Aa 2 sbT hG Y Y Y Y Y (by omega) Y ?_ | refine Ab 3 sbT hG Y Y Y Y Y (by omega) Y ?_ | refine Aa 3 sbT hG Y Y Y Y Y (by omega) Y ?_)); exact kk) | refine do2 ?_) | (show AW _ _ _ _ _ _; first | (show AW _ _ (.region _ _ _) _ _ _; refine sc0 ?_; intro O1) | (refine sc1 ?_; try intro Q1)) | (show (_ → _) ∧ _; refine ⟨fun h => ?_, fun h => ?_⟩) | fail)
  refine Ac rfl (r_lookLo (n := 2) rfl hk hG rfl rfl rfl rfl rfl rfl rfl rfl rfl rfl ?_)
  repeat' (first | (show AL _ _ _ _ _ _ _ _; first | (refine Ac Y ?_; (first | (show AOp _ _ ⟨_, .indexAddr _ _ _, _, _, _, _⟩ _ _ _; refine Ak (sz := 4) hG Y Y Y Y Y Y Y (by omega) ?_) | (show AOp _ _ ⟨_, .load _ _, _, _, _, _⟩ _ _ _; first | refine Ab 0 sbT hG Y Y Y Y Y (by omega) Y ?_ | refine Aa 0 sbT hG Y Y Y Y Y (by omega) Y ?_ | refine Ab 1 sbT hG Y Y Y Y Y (by omega) Y ?_ | refine Aa 1 sbT hG Y Y Y Y Y (by omega) Y ?_ | refine Ab 2 sbT hG Y Y Y Y Y (by omega) Y ?_ | refine Aa 2 sbT hG Y Y Y Y Y (by omega) Y ?_ | refine Ab 3 sbT hG Y Y Y Y Y (by omega) Y ?_ | refine Aa 3 sbT hG Y Y Y Y Y (by omega) Y ?_))) | refine so2 ?_) | (show DL _ _ _ _ _ _ _; first | (refine' Ap Y Y (fun K kk => ?_) ?_; (try (show Go.Ts.T; rotate_left)); (first | (show AOp _ _ ⟨_, .indexAddr _ _ _, _, _, _, _⟩ _ _ _; refine Ak (sz := 4) hG Y Y Y Y Y Y Y (by omega) ?_) | (show AOp _ _ ⟨_, .load _ _, _, _, _, _⟩ _ _ _; first | refine Ab 0 sbT hG Y Y Y Y Y (by omega) Y ?_ | refine Aa 0 sbT hG Y Y Y Y Y (by omega) Y ?_ | refine Ab 1 sbT hG Y Y Y Y Y (by omega) Y ?_ | refine Aa 1 sbT hG Y Y Y Y Y (by omega) Y ?_ | refine Ab 2 sbT hG Y Y Y Y Y (by omega) Y ?_ | refine Aa 2 sbT hG Y Y Y Y Y (by omega) Y ?_ | refine Ab 3 sbT hG Y Y Y Y Y (by omega) Y ?_ | refine Aa 3 sbT hG Y Y Y Y Y (by omega) Y ?_)); exact kk) | refine do2 ?_) | (show AW _ _ _ _ _ _; first | (show AW _ _ (.region _ _ _) _ _ _; refine sc0 ?_; intro O1) | (refine sc1 ?_; try intro Q1)) | (show (_ → _) ∧ _; refine ⟨fun h => ?_, fun h => ?_⟩) | fail)
  refine Ac rfl (r_onL rfl rfl rfl rfl (Lf := [(tw, .cells (lr.map bT))]) (List.perm_append_comm (l₁ := [(tw, _)]) (l₂ := arL v l at' p i m)) hf ?_)
  rintro u L' ⟨i', rfl, rfl⟩
  repeat' (first | (show AL _ _ _ _ _ _ _ _; (fail_if_success show AL _ _ _ _ _ (⟨_, .mapUpdate _ _ _ _, _, _, _, _⟩ :: _) _ _); first | (refine Ac Y ?_; (first | (show AOp _ _ ⟨_, .indexAddr _ _ _, _, _, _, _⟩ _ _ _; refine Ak (sz := 4) hG Y Y Y Y Y Y Y (by omega) ?_) | (show AOp _ _ ⟨_, .load _ _, _, _, _, _⟩ _ _ _; first | refine Ab 0 sbT hG Y Y Y Y Y (by omega) Y ?_ | refine Aa 0 sbT hG Y Y Y Y Y (by omega) Y ?_ | refine Ab 1 sbT hG Y Y Y Y Y (by omega) Y ?_ | refine Aa 1 sbT hG Y Y Y Y Y (by omega) Y ?_ | refine Ab 2 sbT hG Y Y Y Y Y (by omega) Y ?_ | refine Aa 2 sbT hG Y Y Y Y Y (by omega) Y ?_ | refine Ab 3 sbT hG Y Y Y Y Y (by omega) Y ?_ | refine Aa 3 sbT hG Y Y Y Y Y (by omega) Y ?_))) | refine so2 ?_) | (show DL _ _ _ _ _ _ _; first | (refine' Ap Y Y (fun K kk => ?_) ?_; (try (show Go.Ts.T; rotate_left)); (first | (show AOp _ _ ⟨_, .indexAddr _ _ _, _, _, _, _⟩ _ _ _; refine Ak (sz := 4) hG Y Y Y Y Y Y Y (by omega) ?_) | (show AOp _ _ ⟨_, .load _ _, _, _, _, _⟩ _ _ _; first | refine Ab 0 sbT hG Y Y Y Y Y (by omega) Y ?_ | refine Aa 0 sbT hG Y Y Y Y Y (by omega) Y ?_ | refine Ab 1 sbT hG Y Y Y Y Y (by omega) Y ?_ | refine Aa 1 sbT hG Y Y Y Y Y (by omega) Y ?_ | refine Ab 2 sbT hG Y Y Y Y Y (by omega) Y ?_ | refine Aa 2 sbT hG Y Y Y Y Y (by omega) Y ?_ | refine Ab 3 sbT hG Y Y Y Y Y (by omega) Y ?_ | refine Aa 3 sbT hG Y Y Y Y Y (by omega) Y ?_)); exact kk) | refine do2 ?_) | (show AW _ _ _ _ _ _; first | (show AW _ _ (.region _ _ _) _ _ _; refine sc0 ?_; intro O1) | (refine sc1 ?_; try intro Q1)) | (show (_ → _) ∧ _; refine ⟨fun h => ?_, fun h => ?_⟩) | fail)
  refine Ac rfl ?_
  refine r_updL 1 hG rfl rfl rfl rfl rfl rfl rfl rfl ?_
  repeat' (first | (show AL _ _ _ _ _ _ _ _; first | (refine Ac Y ?_; (first | (show AOp _ _ ⟨_, .indexAddr _ _ _, _, _, _, _⟩ _ _ _; refine Ak (sz := 4) hG Y Y Y Y Y Y Y (by omega) ?_) | (show AOp _ _ ⟨_, .load _ _, _, _, _, _⟩ _ _ _; first | refine Ab 0 sbT hG Y Y Y Y Y (by omega) Y ?_ | refine Aa 0 sbT hG Y Y Y Y Y (by omega) Y ?_ | refine Ab 1 sbT hG Y Y Y Y Y (by omega) Y ?_ | refine Aa 1 sbT hG Y Y Y Y Y (by omega) Y ?_ | refine Ab 2 sbT hG Y Y Y Y Y (by omega) Y ?_ | refine Aa 2 sbT hG Y Y Y Y Y (by omega) Y ?_ | refine Ab 3 sbT hG Y Y Y Y Y (by omega) Y ?_ | refine Aa 3 sbT hG Y Y Y Y Y (by omega) Y ?_))) | refine so2 ?_) | (show DL _ _ _ _ _ _ _; first | (refine' Ap Y Y (fun K kk => ?_) ?_; (try (show Go.Ts.T; rotate_left)); (first | (show AOp _ _ ⟨_, .indexAddr _ _ _, _, _, _, _⟩ _ _ _; refine Ak (sz := 4) hG Y Y Y Y Y Y Y (by omega) ?_) | (show AOp _ _ ⟨_, .load _ _, _, _, _, _⟩ _ _ _; first | refine Ab 0 sbT hG Y Y Y Y Y (by omega) Y ?_ | refine Aa 0 sbT hG Y Y Y Y Y (by omega) Y ?_ | refine Ab 1 sbT hG Y Y Y Y Y (by omega) Y ?_ | refine Aa 1 sbT hG Y Y Y Y Y (by omega) Y ?_ | refine Ab 2 sbT hG Y Y Y Y Y (by omega) Y ?_ | refine Aa 2 sbT hG Y Y Y Y Y (by omega) Y ?_ | refine Ab 3 sbT hG Y Y Y Y Y (by omega) Y ?_ | refine Aa 3 sbT hG Y Y Y Y Y (by omega) Y ?_)); exact kk) | refine do2 ?_) | (show AW _ _ _ _ _ _; (fail_if_success show AW _ _ (.region 9 _ _) _ _ _); first | (show AW _ _ (.region _ _ _) _ _ _; refine sc0 ?_; intro O1) | (refine sc1 ?_; try intro Q1)) | (show (_ → _) ∧ _; refine ⟨fun h => ?_, fun h => ?_⟩) | fail)
  refine Bh (m := 18) [] (Cont [(tw, .cells (lr.map bT)), (p, .cells [bT v, .aref 4 i' 0 fl.length none, .map (some m)]), (i', .cells (flat (fl.map sbT)))]) mix Y (by repeat (first | exact Sp.zero _ | apply Sp.succ)) ?_; intro O1 F1 Z1 Q2; repeat' (first | (show DQ _ _ _ _ _ _ _ _ _; first | refine ep2 ?_ | refine dq_onC hc Y Y Y Y Y Y hs ?_) | (show EL _ _ _ _ _ _ _ _ _; first | refine eqc ?_ | (refine ec ?_; intro i)) | (show (_ → _) ∧ _; refine ⟨fun h => ?_, fun h => ?_⟩) | fail)
  refine' dq_cons rfl rfl rfl (fun σ hσ K kk => Ak (sz := 4) hG rfl rfl rfl rfl rfl rfl rfl hjl kk) ?_
  repeat' (first | (show DQ _ _ _ _ _ _ _ _ _; first | refine ep2 ?_) | (show EL _ _ _ _ _ _ _ _ _; first | refine eqc ?_ | (refine ec ?_; intro i)) | (show (_ → _) ∧ _; refine ⟨fun h => ?_, fun h => ?_⟩) | fail)
  refine' dq_cons rfl rfl rfl (fun σ hσ K kk => r_ldC hσ hG rfl hs (read_flat (j := 3) hjl rfl) rfl kk) ?_
  repeat' (first | (show DQ _ _ _ _ _ _ _ _ _; first | refine ep2 ?_) | (show EL _ _ _ _ _ _ _ _ _; first | refine eqc ?_ | (refine ec ?_; intro i)) | (show (_ → _) ∧ _; refine ⟨fun h => ?_, fun h => ?_⟩) | fail)
  repeat' (first | (show AL _ _ _ _ _ _ _ _; (fail_if_success show AL _ _ _ _ _ (⟨_, .store _ _ _, _, _, _, _⟩ :: _) _ _); first | (refine Ac Y ?_; (first | (show AOp _ _ ⟨_, .indexAddr _ _ _, _, _, _, _⟩ _ _ _; refine Ak (sz := 4) hG Y Y Y Y Y Y Y (by omega) ?_) | (show AOp _ _ ⟨_, .load _ _, _, _, _, _⟩ _ _ _; first | refine Ab 0 sbT hG Y Y Y Y Y (by omega) Y ?_ | refine Aa 0 sbT hG Y Y Y Y Y (by omega) Y ?_ | refine Ab 1 sbT hG Y Y Y Y Y (by omega) Y ?_ | refine Aa 1 sbT hG Y Y Y Y Y (by omega) Y ?_ | refine Ab 2 sbT hG Y Y Y Y Y (by omega) Y ?_ | refine Aa 2 sbT hG Y Y Y Y Y (by omega) Y ?_ | refine Ab 3 sbT hG Y Y Y Y Y (by omega) Y ?_ | refine Aa 3 sbT hG Y Y Y Y Y (by omega) Y ?_))) | refine so2 ?_) | (show DL _ _ _ _ _ _ _; first | (refine' Ap Y Y (fun K kk => ?_) ?_; (try (show Go.Ts.T; rotate_left)); (first | (show AOp _ _ ⟨_, .indexAddr _ _ _, _, _, _, _⟩ _ _ _; refine Ak (sz := 4) hG Y Y Y Y Y Y Y (by omega) ?_) | (show AOp _ _ ⟨_, .load _ _, _, _, _, _⟩ _ _ _; first | refine Ab 0 sbT hG Y Y Y Y Y (by omega) Y ?_ | refine Aa 0 sbT hG Y Y Y Y Y (by omega) Y ?_ | refine Ab 1 sbT hG Y Y Y Y Y (by omega) Y ?_ | refine Aa 1 sbT hG Y Y Y Y Y (by omega) Y ?_ | refine Ab 2 sbT hG Y Y Y Y Y (by omega) Y ?_ | refine Aa 2 sbT hG Y Y Y Y Y (by omega) Y ?_ | refine Ab 3 sbT hG Y Y Y Y Y (by omega) Y ?_ | refine Aa 3 sbT hG Y Y Y Y Y (by omega) Y ?_)); exact kk) | refine do2 ?_) | (show AW _ _ _ _ _ _; first | (show AW _ _ (.region _ _ _) _ _ _; refine sc0 ?_; intro O1) | (refine sc1 ?_; try intro Q1)) | (show (_ → _) ∧ _; refine ⟨fun h => ?_, fun h => ?_⟩) | fail)
  refine Ac rfl (r_stE 2 sbT (l := fl) (v := bump (fl.getD j default) id hid b) (z := j) hG rfl rfl rfl rfl rfl rfl rfl hjl ?_)
  repeat' (first | (show AL _ _ _ _ _ _ _ _; first | (refine Ac Y ?_; (first | (show AOp _ _ ⟨_, .indexAddr _ _ _, _, _, _, _⟩ _ _ _; refine Ak (sz := 4) hG Y Y Y Y Y Y Y (by omega) ?_) | (show AOp _ _ ⟨_, .load _ _, _, _, _, _⟩ _ _ _; first | refine Ab 0 sbT hG Y Y Y Y Y (by omega) Y ?_ | refine Aa 0 sbT hG Y Y Y Y Y (by omega) Y ?_ | refine Ab 1 sbT hG Y Y Y Y Y (by omega) Y ?_ | refine Aa 1 sbT hG Y Y Y Y Y (by omega) Y ?_ | refine Ab 2 sbT hG Y Y Y Y Y (by omega) Y ?_ | refine Aa 2 sbT hG Y Y Y Y Y (by omega) Y ?_ | refine Ab 3 sbT hG Y Y Y Y Y (by omega) Y ?_ | refine Aa 3 sbT hG Y Y Y Y Y (by omega) Y ?_))) | refine so2 ?_) | (show DL _ _ _ _ _ _ _; first | (refine' Ap Y Y (fun K kk => ?_) ?_; (try (show Go.Ts.T; rotate_left)); (first | (show AOp _ _ ⟨_, .indexAddr _ _ _, _, _, _, _⟩ _ _ _; refine Ak (sz := 4) hG Y Y Y Y Y Y Y (by omega) ?_) | (show AOp _ _ ⟨_, .load _ _, _, _, _, _⟩ _ _ _; first | refine Ab 0 sbT hG Y Y Y Y Y (by omega) Y ?_ | refine Aa 0 sbT hG Y Y Y Y Y (by omega) Y ?_ | refine Ab 1 sbT hG Y Y Y Y Y (by omega) Y ?_ | refine Aa 1 sbT hG Y Y Y Y Y (by omega) Y ?_ | refine Ab 2 sbT hG Y Y Y Y Y (by omega) Y ?_ | refine Aa 2 sbT hG Y Y Y Y Y (by omega) Y ?_ | refine Ab 3 sbT hG Y Y Y Y Y (by omega) Y ?_ | refine Aa 3 sbT hG Y Y Y Y Y (by omega) Y ?_)); exact kk) | refine do2 ?_) | (show AW _ _ _ _ _ _; first | (show AW _ _ (.region _ _ _) _ _ _; refine sc0 ?_; intro O1) | (refine sc1 ?_; try intro Q1)) | (show (_ → _) ∧ _; refine ⟨fun h => ?_, fun h => ?_⟩) | fail)
  exact Az (Ae rfl Ag) (.refl _) (List.perm_append_comm (l₁ := [(p, _), (m, _), (i', _)]) (l₂ := [(tw, _)])) (.refl _) rfl ⟨i', rfl, rfl⟩
theorem arena_Put_ok_v (v : UInt8) (l : List SB) (at' : List (Nat × Int)) (hwf : WFA l at') {id o mm : Nat} {lr b : List UInt8} (hw : o + mm ≤ lr.length) (hm : mm ≤ 4294967296) (hbb : win lr o mm = b) (hid : id < 18446744073709551616) (hp : putsB v b = true) (hl : l.length ≤ 999999) (p ri m tw : Nat) :
    OnL Try.prog 32 [.ptr p 0, .int .u64 (id : Int), tvT tw o mm] ((tw, .cells (lr.map bT)) :: arL v l at' p ri m) (fun u L => ∃ i', u = .int .i64 0 ∧ L = (tw, .cells (lr.map bT)) :: arL v (putL l at' id hid b) (putA l at' id) p i' m) := by
  unfold putL putA
  cases hk : khas at' id with
  | true =>
    obtain ⟨j, g1, g2, g3, g4⟩ := hwf.b id hk
    rw [if_pos rfl, if_pos rfl, g1, Int.toNat_natCast]
    exact fun off => (arena_Put_old_v v l at' hw hm hbb hid hp hk g1 g2 (by omega) p ri m tw off).mono fun u σ' ⟨L', ⟨h1, h2⟩, h3⟩ => ⟨L', ⟨ri, h1, h2⟩, h3⟩
  | false =>
    rw [if_neg (by decide), if_neg (by decide)]
    exact arena_Put_new_v v l at' hw hm hbb hid hp hk hl p ri m tw
end Go.Proofs.Ythfgocinlbogeaa
set_option linter.unusedVariables false
set_option linter.unusedSimpArgs false
set_option linter.unnecessarySimpa false
namespace Go.Ts
theorem aw_midM {P : Program} {N : Nat} {Q : Exit → Env → St → Prop} {a : Env} {σ : St} {X : Type} {c d : Code} (E : X → Env) (S : X → St) (h1 : AW P N c (A7 (fun a σ => ∃ x, Knows a (E x) ∧ GStep σ (S x)) Q) a σ) (h2 : ∀ x, AW P N d Q (E x) (S x)) : AW P N c (A7 (AW P N d Q) Q) a σ := by
  refine h1.mono fun e a σ h => ?_
  cases e with
  | normal => obtain ⟨x, hk, hg⟩ := h; exact aw_forget hk (aw_ghost hg (h2 x))
  | exit id => exact h
  | goto l => exact h
  | ret => exact h
  | panic ch => exact h
  | outgrown => exact h
mutual
def okM : T → Bool
  | .mro _ _ => false
  | .ro x _ => okM x
  | .sl _ _ xs => okMs xs
  | .fn _ cs => okMs cs
  | .bnd _ cs => okMs cs
  | .agg cs => okMs cs
  | .tup cs => okMs cs
  | _ => true
def okMs : List T → Bool
  | [] => true
  | x :: xs => okM x && okMs xs
end
theorem okMs_get : ∀ {xs : List T} {i : Nat} {x : T}, okMs xs = true → xs[i]? = some x → okM x = true
  | [], i, x, _, h => by simp at h
  | y :: xs, 0, x, hd, h => by
    simp at h; subst h; simp only [okMs, Bool.and_eq_true] at hd; exact hd.1
  | y :: xs, i + 1, x, hd, h => by
    simp only [okMs, Bool.and_eq_true] at hd; exact okMs_get hd.2 (by simpa using h)
theorem okM_cells {x c : T} {j : Nat} (hd : okM x = true) (h : x.cells[j]? = some c) : okM c = true := by
  cases x with
  | agg cs => exact okMs_get (show okMs cs = true by simpa [okM] using hd) h
  | _ =>
    cases j with
    | zero => simp [T.cells] at h; subst h; exact hd
    | succ j => simp [T.cells] at h
section
variable {P : Program} {G : Nat → Option TI} {w w1 : World} {r : Nat} {μ : Gh} {σ : St} {N : Nat} {a : Env} {Q : Exit → Env → St → Prop}
theorem rel_okM {σ' : St} {v : Value} {t : T} (h : Rel w μ σ v t) (hd : okM t = true) (im : ∀ b o u, w.cell? ⟨b, o, none⟩ = some u → Imm w μ σ b o → Imm w μ σ' b o) : Rel w μ σ' v t := by
  induction h with
  | bool b => exact .bool b
  | int k n => exact .int k n
  | flt k n => exact .flt k n
  | cplx k m n => exact .cplx k m n
  | str s => exact .str s
  | nilp => exact .nilp
  | ptr i b p o h => exact .ptr i b p o h
  | ro b p o x h r ih =>
    have hx : okM x = true := by simpa [okM] using hd
    refine .ro b p o x (fun j c hj => ?_) (fun j c v hj hv => ih j c v hj hv (okM_cells hx hj))
    obtain ⟨hi, v, hv⟩ := h j c hj
    exact ⟨im _ _ v hv hi, v, hv⟩
  | nilsl => exact .nilsl
  | slnil sz own h => exact .slnil sz own h
  | slz a sz own h => exact .slz a sz own h
  | sl b p cap sz own xs n hn hc ho hs h r ih =>
    have hx : okMs xs = true := by simpa [okM] using hd
    refine .sl b p cap sz own xs n hn hc ho hs (fun i x j c hx' hj => ?_) (fun i x j c v hx' hj hv => ih i x j c v hx' hj hv (okM_cells (okMs_get hx hx') hj))
    obtain ⟨hi, v, hv⟩ := h i x j c hx' hj
    exact ⟨im _ _ v hv hi, v, hv⟩
  | aref i b p o n c sz cap h hc hcap hb => exact .aref i b p o n c sz cap h hc hcap hb
  | mapnil => exact .mapnil
  | map i b p h => exact .map i b p h
  | mro b ks us en cl h hs hu hb hi rk rv ihk ihv => simp [okM] at hd
  | fn f caps vs hn r ih => exact .fn f caps vs hn fun j c v h1 h2 => ih j c v h1 h2 (okMs_get (by simpa [okM] using hd) h1)
  | bnd f cs vs hn r ih => exact .bnd f cs vs hn fun j c v h1 h2 => ih j c v h1 h2 (okMs_get (by simpa [okM] using hd) h1)
  | nilfn => exact .nilfn
  | agg cs vs hn r ih => exact .agg cs vs hn fun j c v h1 h2 => ih j c v h1 h2 (okMs_get (by simpa [okM] using hd) h1)
  | tup cs vs hn r ih => exact .tup cs vs hn fun j c v h1 h2 => ih j c v h1 h2 (okMs_get (by simpa [okM] using hd) h1)
  | raw v => exact .raw v
def okOb : Ob → Bool
  | .cells ts => okMs ts
  | .map es => okMs (es.map Prod.fst) && okMs (es.map Prod.snd)
def okL (L : List (Nat × Ob)) : Bool := L.all fun x => okOb x.2
theorem cell_map {b o : Nat} {en : Array MapEntry} {cl : Nat} (h : w.heap[b]? = some (.map en cl)) : w.cell? ⟨b, o, none⟩ = none := by
  simp [World.cell?, h]
theorem unborrow {w' : World} {μ' : Gh} {σ' : St} {n m : Nat} {es : List (T × T)} (hi : Inv w μ σ) (hn : σ.L[n]? = some (m, .map es)) (ev : Ev w μ { σ with L := σ.L.eraseIdx n } w' μ' σ') (hi' : Inv w' μ' σ') (hk : okL σ'.L = true) (he : okOb (.map es) = true) :
    Inv w' μ' { σ' with L := (m, .map es) :: σ'.L } ∧ Ev w μ σ w' μ' { σ' with L := (m, .map es) :: σ'.L } ∧ ∀ v t, Rel w' μ' σ' v t → okM t = true → Rel w' μ' { σ' with L := (m, .map es) :: σ'.L } v t := by
  have hmem := List.mem_of_getElem? hn
  obtain ⟨b, en, cl, hl, hc, ⟨hsz, hbn⟩, hrel⟩ := hi.map m es hmem
  have him : ∀ o, Imm w μ { σ with L := σ.L.eraseIdx n } b o := fun o => erase_imm hi hn hl o
  have hc' : w'.heap[b]? = some (.map en cl) := ev.ev0.whole b en cl hc him
  have hl' : μ'.loc m = some (b, 0) := ev.loc _ _ hl
  have im' : ∀ o, Imm w' μ' σ' b o := fun o => (ev.imm b o (him o)).1
  have hsub : ∀ x, x ∈ σ.L.eraseIdx n → x ∈ σ.L := fun x h => (List.eraseIdx_sublist σ.L n).subset h
  have imc : ∀ b' o u, w'.cell? ⟨b', o, none⟩ = some u → Imm w' μ' σ' b' o → Imm w' μ' { σ' with L := (m, .map es) :: σ'.L } b' o := by
    intro b' o u hu h
    refine ⟨h.lt, h.off, fun i ob p h1 h2 => ?_, h.room⟩
    rcases List.mem_cons.1 h1 with h3 | h3
    · injection h3 with h3 h4; subst h3
      rw [hl'] at h2; injection h2 with h2; injection h2 with h2 h5; subst h2
      rw [cell_map hc'] at hu; cases hu
    · exact h.obj i ob p h3 h2
  have tr : ∀ v t, Rel w' μ' σ' v t → okM t = true → Rel w' μ' { σ' with L := (m, .map es) :: σ'.L } v t := fun v t h1 h2 => rel_okM h1 h2 imc
  have okx : ∀ x ∈ σ'.L, okOb x.2 = true := fun x hx => List.all_eq_true.1 hk x hx
  refine ⟨⟨fun i ts h => ?_, fun i es' h => ?_, ?_, fun k hk2 => ?_, hi'.rinj, hi'.fin, hi'.offlt, fun i ob b' p h1 h2 o => ?_⟩, ⟨ev.below, ev.loc, ev.tok, ev.off, ev.shape, fun b' hb hnl => ?_, fun b' o h => ?_⟩, tr⟩
  · rcases List.mem_cons.1 h with h | h
    · injection h with h1 h2; cases h2
    · obtain ⟨b1, p, c, e, h1, h2, h3, h4⟩ := hi'.obj i ts h
      exact ⟨b1, p, c, e, h1, h2, h3, fun j t v h5 h6 => tr v t (h4 j t v h5 h6) (okMs_get (show okMs ts = true from okx _ h) h5)⟩
  · have hget : ∀ {es1 : List (T × T)} {j : Nat} {k u : T}, okOb (.map es1) = true → es1[j]? = some (k, u) → okM k = true ∧ okM u = true := by
      intro es1 j k u h1 h2
      simp only [okOb, Bool.and_eq_true] at h1
      exact ⟨okMs_get h1.1 (i := j) (by simp [h2]), okMs_get h1.2 (i := j) (by simp [h2])⟩
    rcases List.mem_cons.1 h with h | h
    · injection h with h1 h2; injection h2 with h2; subst h1; subst h2
      have e1 := (erase_step n w μ hi).2
      exact ⟨b, en, cl, hl', hc', ⟨hsz, hbn⟩, fun j k u e' h6 h7 => let ⟨h8, h9⟩ := hrel j k u e' h6 h7; ⟨tr _ _ ((h8.ev e1).ev ev) (hget he h6).1, tr _ _ ((h9.ev e1).ev ev) (hget he h6).2⟩⟩
    · obtain ⟨b1, en1, c1, h1, h2, h3, h4⟩ := hi'.map i es' h
      exact ⟨b1, en1, c1, h1, h2, h3, fun j k u e' h6 h7 => let ⟨h8, h9⟩ := h4 j k u e' h6 h7; ⟨tr _ _ h8 (hget (okx _ h) h6).1, tr _ _ h9 (hget (okx _ h) h6).2⟩⟩
  · refine inj_pair.2 (List.pairwise_cons.2 ⟨fun x hx => ?_, inj_pair.1 hi'.inj⟩)
    intro b1 p q h1 h2
    rw [hl'] at h1; injection h1 with h1; injection h1 with h1 h3; subst h1
    exact (im' 0).obj x.1 x.2 q hx h2
  · obtain ⟨b1, f, t, h1, h2, h3⟩ := hi'.room k hk2
    refine ⟨b1, f, t, h1, h2, fun hlt => ?_⟩
    obtain ⟨h4, h5, h6⟩ := h3 hlt
    refine ⟨h4, fun i ob p h7 h8 => ?_, h6⟩
    rcases List.mem_cons.1 h7 with h9 | h9
    · injection h9 with h9 h10; subst h9
      rw [hl'] at h8; injection h8 with h8; injection h8 with h8 h11; subst h8
      exact (im' f).room k f t hk2 h1 ⟨Nat.le_refl _, hlt⟩
    · exact h5 i ob p h9 h8
  · rcases List.mem_cons.1 h1 with h9 | h9
    · injection h9 with h9 h10; subst h9
      rw [hl'] at h2; injection h2 with h2; injection h2 with h2 h11; subst h2
      exact (im' o).off
    · exact hi'.offobj i ob b' p h9 h2 o
  · have hnl1 : ¬ Live μ { σ with L := σ.L.eraseIdx n } b' := by
      rintro (⟨i, ob, p, h1, h2⟩ | h)
      · exact hnl (.inl ⟨i, ob, p, hsub _ h1, h2⟩)
      · exact hnl (.inr h)
    obtain ⟨h1, h2⟩ := ev.live b' hb hnl1
    refine ⟨?_, h2⟩
    rintro (⟨i, ob, p, h3, h4⟩ | h)
    · rcases List.mem_cons.1 h3 with h9 | h9
      · injection h9 with h9 h10; subst h9
        rw [hl'] at h4; injection h4 with h4; injection h4 with h4 h11; subst h4
        exact hnl (.inl ⟨_, _, _, hmem, hl⟩)
      · exact h1 (.inl ⟨i, ob, p, h9, h4⟩)
    · exact h1 (.inr h)
  · have h1 : Imm w μ { σ with L := σ.L.eraseIdx n } b' o := ⟨h.lt, h.off, fun i ob p h2 => h.obj i ob p (hsub _ h2), h.room⟩
    obtain ⟨h2, h3⟩ := ev.imm b' o h1
    refine ⟨⟨h2.lt, h2.off, fun i ob p h4 h5 => ?_, h2.room⟩, h3⟩
    rcases List.mem_cons.1 h4 with h9 | h9
    · injection h9 with h9 h10; subst h9
      rw [hl'] at h5; injection h5 with h5; injection h5 with h5 h11; subst h5
      exact h.obj _ _ _ hmem hl
    · exact h2.obj i ob p h9 h5
def okE (a : Env) : Bool := a.all fun x => okM x.2
theorem okE_get {a : Env} (h : okE a = true) {i : Nat} {t : T} (hg : get a i = some t) : okM t = true := by
  induction a with
  | nil => simp [get] at hg
  | cons x a ih =>
    obtain ⟨j, u⟩ := x
    simp only [okE, List.all_cons, Bool.and_eq_true] at h
    simp only [get] at hg
    cases hb : Nat.beq j i with
    | true => rw [hb] at hg; simp at hg; subst hg; exact h.1
    | false => rw [hb] at hg; exact ih h.2 hg
def PreB (P : Program) (N : Nat) (ops : Array Oper) (σ : St) (a1 : Env) (last : List Nat) (is : List Nat) (a : Env) : Prop :=
  ∀ (Qw : Exit → Act → World → Prop) av w μ, Inv w μ σ → RelA w μ σ N av a → (∀ av' w' μ', Ev w μ σ w' μ' σ → Inv w' μ' σ → RelA w' μ' σ N av' a1 → wpOps P ops Qw last av' w') → wpOps P ops Qw is av w
theorem PreB.nil {ops : Array Oper} {a1 : Env} {last : List Nat} : PreB P N ops σ a1 last last a1 := fun Qw av w μ hi hr k => k av w μ (.refl _ _ _) hi hr
theorem PreB.cons {ops : Array Oper} {a1 a2 : Env} {last is : List Nat} {i : Nat} {o : Oper} (ho : ops[i]? = some o) (hg : o.guard = none) (h : AOp P N o a σ (fun b σ' => b = a2 ∧ σ' = σ)) (k : PreB P N ops σ a1 last is a2) : PreB P N ops σ a1 last (i :: is) a := by
  intro Qw av w μ hi hr kk
  refine wpOps_at ho hg (h av w μ hi hr _ _ fun av' w' μ' a' σ' e1 i1 r1 hK => ?_)
  obtain ⟨rfl, rfl⟩ := hK
  exact k Qw av' w' μ' i1 r1 fun av2 w2 μ2 e2 i2 r2 => kk av2 w2 μ2 (e1.trans e2) i2 r2
theorem aw_rangeL (hG : Fits P G) {id0 id1 id2 out nb n0 nn m : Nat} {it nx more pair : Tmp} {x : Operand} {t ty2 ty3 ty4 ty5 : TypeId} {p2 p3 p4 p5 : String} {f2 f3 f4 f5 : Array Edge} {ops0 : Array Oper} {os : List Oper} {code : Code} {ti : TI} {kt et : Nat} {es : List (T × T)} {a1 : Env}
    {X : Type} (x0 : X) (E : List Nat → X → Env) (S : List Nat → X → St)
    (hn : σ.L[nn]? = some (m, .map es))
    (hpre : PreB P N ops0 σ a1 [n0] (List.range ops0.size) a)
    (hop : ops0[n0]? = some ⟨some it, .range t x, ty2, p2, f2, none⟩)
    (hx : Ad a1 x = some (.map (some m))) (ht : G t = some ti) (htd : ti.d = .map kt et)
    (h2 : Ai N (some it) = true) (h3 : Ai N (some nx) = true) (h4 : Ai N (some more) = true) (h5 : Ai N (some pair) = true)
    (hne : (Nat.beq it nx || Nat.beq it more || Nat.beq nx more) = false) (hE : ∀ done y, get (E done y) nx = none ∧ get (E done y) more = none) (hEi : ∀ done y, get (E done y) it = none)
    (h0 : ∀ v, Knows (put a1 (some it) (.raw v)) ((it, .raw v) :: E [] x0)) (hs : GStep { σ with L := σ.L.eraseIdx nn } (S [] x0))
    (okS : ∀ done y, okL (S done y).L = true) (okEE : ∀ done y, okE (E done y) = true) (okes : okOb (.map es) = true)
    (round : ∀ v done y j k u, done.Nodup → (∀ i ∈ done, i < es.length) → j ∉ done → es[j]? = some (k, u) →
      AL P N ⟨⟨some pair, .entry (.tmp it), ty5, p5, f5, none⟩ :: os⟩ (A7 (AW P N code (Am nb (A7 (fun a' σ' => ∃ y', Knows a' ((it, .raw v) :: E (done ++ [j]) y') ∧ GStep σ' (S (done ++ [j]) y')) (Am out (fun _ _ _ => False)))))
        (Am nb (A7 (fun a' σ' => ∃ y', Knows a' ((it, .raw v) :: E (done ++ [j]) y') ∧ GStep σ' (S (done ++ [j]) y')) (Am out (fun _ _ _ => False))))) 1 os (put ((it, .raw v) :: E done y) (some pair) (.tup [k, u])) (S done y))
    (fin : ∀ done y, done.Nodup → (∀ i ∈ done, i < es.length) → done.length = es.length → Q .normal (E done y) { S done y with L := (m, .map es) :: (S done y).L }) :
    AW P N (.seq (.region id0 ops0 false) (.block out (.loop (.seq (.region id1 ⟨[⟨some nx, .next (.tmp it) false, ty3, p3, f3, none⟩, ⟨some more, .extract (.tmp nx) 0, ty4, p4, f4, none⟩]⟩ false)
      (.seq (.cond (.tmp more) .skip (.exit out)) (.block nb (.seq (.region id2 ⟨⟨some pair, .entry (.tmp it), ty5, p5, f5, none⟩ :: os⟩ false) code))))))) Q a σ := by
  simp only [Bool.or_eq_false_iff] at hne
  obtain ⟨⟨hn1, hn2⟩, hn3⟩ := hne
  have hn1 : it ≠ nx := fun e => by rw [e] at hn1; simp at hn1
  have hn2 : it ≠ more := fun e => by rw [e] at hn2; simp at hn2
  have hn3 : nx ≠ more := fun e => by rw [e] at hn3; simp at hn3
  intro av0 w0 μ0 hi0 hr0
  refine wp_seq (wp_region (hpre _ av0 w0 μ0 hi0 hr0 fun av1 w μ evp hi hr1 => ?_))
  have rx := Al hr1 hx
  have hmem := List.mem_of_getElem? hn
  obtain ⟨b, en, cl, hl, hc, ⟨hsz0, hbn⟩, hrel⟩ := hi.map m es hmem
  have hev1 : av1.eval x = .map (some b) := by
    generalize av1.eval x = vx at rx
    cases rx with
    | map i b' p h => rw [hl] at h; injection h with h; injection h with h h'; subst h; rfl
  have him : ∀ o, Imm w μ { σ with L := σ.L.eraseIdx nn } b o := fun o => erase_imm hi hn hl o
  obtain ⟨i1, e1⟩ := erase_step nn w μ hi
  have hlen : en.size = es.length := hsz0
  have rk : ∀ (j : Nat) (k : T) (e : MapEntry), (es.map Prod.fst)[j]? = some k → en[j]? = some e → Rel w μ { σ with L := σ.L.eraseIdx nn } e.key k := by
    intro j k e h6 h7
    rw [List.getElem?_map] at h6
    cases hq : es[j]? with
    | none => rw [hq] at h6; cases h6
    | some p => rw [hq] at h6; injection h6 with h6; subst h6; exact ((hrel j p.1 p.2 e hq h7).1).ev e1
  have rv : ∀ (j : Nat) (u : T) (e : MapEntry), (es.map Prod.snd)[j]? = some u → en[j]? = some e → Rel w μ { σ with L := σ.L.eraseIdx nn } e.val u := by
    intro j k e h6 h7
    rw [List.getElem?_map] at h6
    cases hq : es[j]? with
    | none => rw [hq] at h6; cases h6
    | some p => rw [hq] at h6; injection h6 with h6; subst h6; exact ((hrel j p.1 p.2 e hq h7).2).ev e1
  obtain ⟨d2, u1, fd⟩ := Aq (P := P) (w := w) hG ht
  rw [htd] at fd; obtain rfl := td_map fd
  have hg1 : (getObj b).run P w = .ok (.map en cl) w := by simp [getObj, Sem.run, hc]
  obtain ⟨r, hrr⟩ : ∃ r, r = w.heap.size := ⟨_, rfl⟩
  obtain ⟨v, hv⟩ : ∃ v : Value, v = .pointer (some ⟨r, 0, none⟩) := ⟨_, rfl⟩
  have hrange : (execOp av1.eval ⟨some it, .range t x, ty2, p2, f2, none⟩).run P w = .ok (.value v) (w.alloc (.mapIter (some b) cl #[] cl)) := by
    simp [execOp, Instr.range, hev1, u1, hg1, newObj, hv, hrr]
    rfl
  refine wpOps_at hop rfl (wp_value hrange ?_)
  obtain ⟨eva, inva⟩ := alloc_step i1 (.mapIter (some b) cl #[] cl)
  have hr2 := ((hr1.ev e1).ev eva).put h2 (Rel.raw v)
  have hra : (w.alloc (.mapIter (some b) cl #[] cl)).heap[r]? = some (.mapIter (some b) cl #[] cl) := by rw [hrr]; exact Bl w _
  obtain ⟨gs1, gs2⟩ := hs _ μ inva
  have hr3 := (hr2.ev gs2).knows (h0 v)
  show (Code.block out _).wp P _ (av1.put (some it) v) _
  generalize av1.put (some it) v = av2 at hr3
  have ev0 := eva.trans gs2
  generalize w.alloc (.mapIter (some b) cl #[] cl) = wa at *
  clear hr2 inva eva gs2 hrange
  suffices core : (Code.block out _).wp P (fun e av' w' => ∃ a' σ' μ', Ev w μ { σ with L := σ.L.eraseIdx nn } w' μ' σ' ∧ Inv w' μ' σ' ∧ RelA w' μ' σ' N av' a' ∧ (e = .normal ∧ ∃ done y, done.Nodup ∧ (∀ i ∈ done, i < es.length) ∧ done.length = es.length ∧ a' = E done y ∧ σ' = S done y)) av2 wa by
    refine wp_mono core ?_
    rintro e av' w' ⟨a', σ', μ', k1, k2, k3, rfl, done, y, q1, q2, q3, rfl, rfl⟩
    obtain ⟨u1, u2, u3⟩ := unborrow hi hn k1 k2 (okS done y) okes
    exact ⟨_, _, μ', evp.trans u2, u1, ⟨k3.size, k3.defers, fun i t hi => let ⟨v, hv, rr⟩ := k3.tmp i t hi; ⟨v, hv, u3 v t rr (okE_get (okEE done y) hi)⟩⟩, fin done y q1 q2 q3⟩
  refine wp_block (wp_loop_ghost (fun n av' w' => ∃ (done : List Nat) (y : X) (μ' : Gh) (seen : Array Nat), n = es.length - done.length ∧ done.Nodup ∧ (∀ i ∈ done, i < es.length) ∧ Ev w μ { σ with L := σ.L.eraseIdx nn } w' μ' (S done y) ∧ Inv w' μ' (S done y) ∧ RelA w' μ' (S done y) N av' ((it, .raw v) :: E done y) ∧
      w'.heap[r]? = some (.mapIter (some b) cl seen cl) ∧ seen.toList = done.map fun i => (en[i]!).born) es.length ⟨[], x0, μ, #[], by simp, by simp, by simp, ev0, gs1, hr3, hra, by simp⟩ ?_)
  rintro n av3 w3 ⟨done, y, μ3, seen, rfl, hnd, hlt, ev3, inv3, hr4, hri, hseen⟩
  have hb3 : w3.heap[b]? = some (.map en cl) := ev3.ev0.whole b en cl hc him
  have hev3 : av3.eval (.tmp it) = v := eval_raw hr4 (by simp [Ad, get])
  refine wp_seq (wp_region ?_)
  show wpOps P _ _ [0, 1] av3 w3
  rcases next_run (ty := ty3) (P := P) hri hb3 hbn with ⟨m, hnext, hall⟩ | ⟨m, e, j, hnext, hj, hnew⟩
  · have hrun3 : (execOp av3.eval ⟨some nx, .next (.tmp it) false, ty3, p3, f3, none⟩).run P w3 = .ok (.value (.tuple #[.bool false])) { w3 with drawn := m } := by
      simp only [execOp, hev3, hv]
      simp [hnext]
    refine wpOps_at rfl rfl (wp_value hrun3 ?_)
    have st := drew_step hri m
    have ev4 := st.ev ev3 (by omega)
    have inv4 := st.inv inv3
    have hr5 := hr4.ev' st.ev0
    have hr6 := hr5.put h3 (Rel.raw (.tuple #[.bool false]))
    have hext : (execOp (av3.put (some nx) (.tuple #[.bool false])).eval ⟨some more, .extract (.tmp nx) 0, ty4, p4, f4, none⟩).run P { w3 with drawn := m } = .ok (.value (.bool false)) { w3 with drawn := m } := by
      simp [execOp, Instr.extract, ev_put (v := .tuple #[.bool false]) hr5 h3]
    refine wpOps_at rfl rfl (wp_value hext ?_)
    have hr7 := hr6.put h4 (Rel.bool false)
    refine wp_seq (wp_cond_false (ev_put hr6 h4) (wp_exit ?_))
    have hfull : done.length = es.length := all_seen _ _ hnd hlt fun i hi => by
      have hsz' : i < en.size := by omega
      have h9 := hall en[i] (by simp)
      rw [hseen] at h9
      obtain ⟨q, hq, hqe⟩ := List.mem_map.1 h9
      have := born_inj (i := q) (j := i) hbn (by have := hlt q hq; omega) hsz' (by rw [hqe, getElem!_pos en i hsz'])
      exact this ▸ hq
    have kn : Knows (put (put ((it, .raw v) :: E done y) (some nx) (.raw (.tuple #[.bool false]))) (some more) (.bool false)) ((it, .raw v) :: E done y) :=
      knows_put (knows_put (.refl _) (by simp [get, beqF hn1, (hE done y).1])) (by simp [get, beqF hn2, (hE done y).2])
    show (if out = out then _ else _)
    rw [if_pos rfl]
    exact ⟨_, _, μ3, ev4, inv4, (hr7.knows kn).knows (fun i t h => ⟨t, by
      have e : it ≠ i := fun e => by subst e; rw [hEi done y] at h; cases h
      simp [get, beqF e, h], .refl _⟩), rfl, done, y, hnd, hlt, hfull, rfl, rfl⟩
  · have hrun3 : (execOp av3.eval ⟨some nx, .next (.tmp it) false, ty3, p3, f3, none⟩).run P w3 = .ok (.value (.tuple #[.bool true, e.key, e.val])) (iterW { w3 with drawn := m } r b cl (seen.push e.born)) := by
      simp only [execOp, hev3, hv]
      simp [hnext]
    refine wpOps_at rfl rfl (wp_value hrun3 ?_)
    have st := iterW_step (seen' := seen.push e.born) hri m
    have hr4r : (iterW { w3 with drawn := m } r b cl (seen.push e.born)).heap[r]? = some (.mapIter (some b) cl (seen.push e.born) cl) := by
      have := (Array.getElem?_eq_some_iff.1 hri).1
      simp [iterW, this]
    generalize iterW { w3 with drawn := m } r b cl (seen.push e.born) = w4 at *
    have ev4 := st.ev ev3 (by omega)
    have inv4 := st.inv inv3
    have hr5 := hr4.ev' st.ev0
    have hb4 := st.map hb3
    have hr6 := hr5.put h3 (Rel.raw (.tuple #[.bool true, e.key, e.val]))
    have hext : (execOp (av3.put (some nx) (.tuple #[.bool true, e.key, e.val])).eval ⟨some more, .extract (.tmp nx) 0, ty4, p4, f4, none⟩).run P w4 = .ok (.value (.bool true)) w4 := by
      simp [execOp, Instr.extract, ev_put (v := .tuple #[.bool true, e.key, e.val]) hr5 h3]
    refine wpOps_at rfl rfl (wp_value hext ?_)
    have hr7 := hr6.put h4 (Rel.bool true)
    refine wp_seq (wp_cond_true (ev_put hr6 h4) (wp_skip ?_))
    have kn : Knows (put (put ((it, .raw v) :: E done y) (some nx) (.raw (.tuple #[.bool true, e.key, e.val]))) (some more) (.bool true)) ((it, .raw v) :: E done y) :=
      knows_put (knows_put (.refl _) (by simp [get, beqF hn1, (hE done y).1])) (by simp [get, beqF hn2, (hE done y).2])
    have hr8 := hr7.knows kn
    have hjl : j < en.size := (Array.getElem?_eq_some_iff.1 hj).1
    have hje : en[j]! = e := by rw [getElem!_pos en j hjl]; exact (Array.getElem?_eq_some_iff.1 hj).2
    have hjd : j ∉ done := fun hd => hnew (by rw [hseen]; exact List.mem_map.2 ⟨j, hd, by rw [hje]⟩)
    obtain ⟨⟨k, u⟩, hes⟩ : ∃ p, es[j]? = some p := ⟨_, List.getElem?_eq_getElem (by omega)⟩
    have hent : (execOp ((av3.put (some nx) (.tuple #[.bool true, e.key, e.val])).put (some more) (.bool true)).eval ⟨some pair, .entry (.tmp it), ty5, p5, f5, none⟩).run P w4 = .ok (.value (.tuple #[e.key, e.val])) w4 := by
      have := eval_raw (x := .tmp it) (v := v) hr8 (by simp [Ad, get])
      have h9 := entry_run (P := P) hr4r hb4 hbn hj
      rw [← hv] at h9
      simp only [execOp]
      rw [this]
      simp [h9]
    have hpr : Rel w4 μ3 (S done y) (.tuple #[e.key, e.val]) (.tup [k, u]) := by
      refine .tup _ _ rfl fun q c y h1 h2 => ?_
      match q with
      | 0 => simp at h1 h2; subst h1; subst h2; exact (rk j _ e (by simp [hes]) hj).ev ev4
      | 1 => simp at h1 h2; subst h1; subst h2; exact (rv j _ e (by simp [hes]) hj).ev ev4
      | q + 2 => simp at h1
    have hr9 := hr8.put h5 hpr
    have ral := round v done y j k u hnd hlt hjd hes rfl
    have nl := notlive_iter inv4 hr4r
    have hrlt : r < w4.heap.size := (Array.getElem?_eq_some_iff.1 hr4r).1
    have conv : ∀ (e' : Exit) (av' : Act) (w' : World) (μ' : Gh) (a' : Env) (σ' : St), Ev w4 μ3 (S done y) w' μ' σ' → Inv w' μ' σ' → RelA w' μ' σ' N av' a' →
        Am nb (A7 (fun a' σ' => ∃ y', Knows a' ((it, .raw v) :: E (done ++ [j]) y') ∧ GStep σ' (S (done ++ [j]) y')) (Am out (fun _ _ _ => False))) e' a' σ' →
        Exit.inBlock nb (Exit.then (fun a' w' => ∃ n', n' < es.length - done.length ∧ ∃ (done : List Nat) (y : X) (μ' : Gh) (seen : Array Nat), n' = es.length - done.length ∧ done.Nodup ∧ (∀ i ∈ done, i < es.length) ∧ Ev w μ { σ with L := σ.L.eraseIdx nn } w' μ' (S done y) ∧ Inv w' μ' (S done y) ∧ RelA w' μ' (S done y) N a' ((it, .raw v) :: E done y) ∧
          w'.heap[r]? = some (.mapIter (some b) cl seen cl) ∧ seen.toList = done.map fun i => (en[i]!).born) (Exit.inBlock out fun e av' w' => ∃ a' σ' μ', Ev w μ { σ with L := σ.L.eraseIdx nn } w' μ' σ' ∧ Inv w' μ' σ' ∧ RelA w' μ' σ' N av' a' ∧ (e = .normal ∧ ∃ done y, done.Nodup ∧ (∀ i ∈ done, i < es.length) ∧ done.length = es.length ∧ a' = E done y ∧ σ' = S done y))) e' av' w' := by
      intro e' av' w' μ' a' σ' q1 q2 q3 q4
      have hJ : (∃ y', Knows a' ((it, .raw v) :: E (done ++ [j]) y') ∧ GStep σ' (S (done ++ [j]) y')) → ∃ n', n' < es.length - done.length ∧ ∃ (done : List Nat) (y : X) (μ' : Gh) (seen : Array Nat), n' = es.length - done.length ∧ done.Nodup ∧ (∀ i ∈ done, i < es.length) ∧ Ev w μ { σ with L := σ.L.eraseIdx nn } w' μ' (S done y) ∧ Inv w' μ' (S done y) ∧ RelA w' μ' (S done y) N av' ((it, .raw v) :: E done y) ∧
          w'.heap[r]? = some (.mapIter (some b) cl seen cl) ∧ seen.toList = done.map fun i => (en[i]!).born := by
        rintro ⟨y', hk, hg⟩
        obtain ⟨g1, g2⟩ := hg w' μ' q2
        have hnd2 : (done ++ [j]).Nodup := List.nodup_append.2 ⟨hnd, by simp, fun x hx y hy => by simp at hy; subst hy; rintro rfl; exact hjd hx⟩
        have hlt2 : ∀ i ∈ done ++ [j], i < es.length := fun i hi => by
          rcases List.mem_append.1 hi with hi | hi
          · exact hlt i hi
          · simp at hi; omega
        have hle := nodup_le es.length _ hnd2 hlt2
        simp only [List.length_append, List.length_cons, List.length_nil] at hle
        refine ⟨es.length - (done ++ [j]).length, by simp only [List.length_append, List.length_cons, List.length_nil]; omega, done ++ [j], y', μ', seen.push e.born, rfl, hnd2, hlt2, (ev4.trans q1).trans g2, g1, (q3.ev g2).knows hk, ?_, by simp [hseen, hje]⟩
        rw [(q1.live r hrlt nl).2]; exact hr4r
      have hQ : ∀ e'', (fun (_ : Exit) (_ : Env) (_ : St) => False) e'' a' σ' → ∃ a' σ' μ', Ev w μ { σ with L := σ.L.eraseIdx nn } w' μ' σ' ∧ Inv w' μ' σ' ∧ RelA w' μ' σ' N av' a' ∧ (e'' = .normal ∧ ∃ done y, done.Nodup ∧ (∀ i ∈ done, i < es.length) ∧ done.length = es.length ∧ a' = E done y ∧ σ' = S done y) := fun e'' h => h.elim
      cases e' with
      | normal => exact hJ q4
      | exit id =>
        by_cases hid : id = nb
        · subst hid
          have q5 : ∃ y', Knows a' ((it, .raw v) :: E (done ++ [j]) y') ∧ GStep σ' (S (done ++ [j]) y') := by simpa [Am, A7] using q4
          show (if id = id then _ else _)
          rw [if_pos rfl]
          exact hJ q5
        · have q5 : Am out (fun _ _ _ => False) (.exit id) a' σ' := by simpa [Am, beqF hid, A7] using q4
          show (if id = nb then _ else _)
          rw [if_neg hid]
          show (if id = out then _ else _)
          by_cases ho : id = out
          · subst ho
            rw [if_pos rfl]
            exact hQ _ (by simpa [Am] using q5)
          · rw [if_neg ho]
            exact hQ _ (by simpa [Am, beqF ho] using q5)
      | goto l => exact hQ _ q4
      | ret => exact hQ _ q4
      | panic ch => exact hQ _ q4
      | outgrown => exact hQ _ q4
    refine wp_block (wp_seq (wp_region ?_))
    show wpOps P _ _ (List.range (os.length + 1)) _ _
    rw [List.range_eq_range', List.range'_succ]
    refine wpOps_at rfl rfl (wp_value hent ?_)
    refine ral _ w4 μ3 inv4 hr9 _ fun e' av' w' μ' a' σ' k1 k2 k3 k4 => ?_
    cases e' with
    | normal => exact wp_mono (k4 av' w' μ' k2 k3) fun e2 av2 w2 ⟨a2, σ2, μ2, m1, m2, m3, m4⟩ => conv e2 av2 w2 μ2 a2 σ2 (k1.trans m1) m2 m3 m4
    | exit id => exact conv (.exit id) av' w' μ' a' σ' k1 k2 k3 k4
    | goto l => exact conv (.goto l) av' w' μ' a' σ' k1 k2 k3 k4
    | ret => exact conv .ret av' w' μ' a' σ' k1 k2 k3 k4
    | panic ch => exact conv (.panic ch) av' w' μ' a' σ' k1 k2 k3 k4
    | outgrown => exact conv .outgrown av' w' μ' a' σ' k1 k2 k3 k4
end
end Go.Ts
namespace Go.Proofs.Ythfgocinlbogeaa
open Go.Ts
set_option linter.unusedSimpArgs false
set_option linter.unusedVariables false
def updO {β : Type} (A : Nat → Option β) (id : Nat) (v : Option β) : Nat → Option β := fun x => if x = id then v else A x
structure ArOK (A : Nat → Option (List UInt8)) (l : List SB) (at' : List (Nat × Int)) : Prop where
  wf : WFA l at'
  kn : KN at'
  a : ∀ id, A id = if khas at' id = true then some (recA l at' id) else none
  sb : ∀ s ∈ l, s.bs.length ≤ 60000
theorem ar_has {A : Nat → Option (List UInt8)} {l : List SB} {at' : List (Nat × Int)} (h : ArOK A l at') {id : Nat} {b : List UInt8} (ha : A id = some b) : khas at' id = true ∧ recA l at' id = b ∧ ∃ j : Nat, klook at' id = (j : Int) ∧ j < l.length ∧ (l.getD j default).bs = b := by
  rw [h.a] at ha
  split at ha
  · rename_i hk
    injection ha with ha
    obtain ⟨j, h1, h2, h3, h4⟩ := h.wf.b id hk
    refine ⟨hk, ha, j, h1, h2, ?_⟩
    unfold recA at ha; rw [h1, Int.toNat_natCast] at ha; exact ha
  · cases ha
theorem ar_no {A : Nat → Option (List UInt8)} {l : List SB} {at' : List (Nat × Int)} (h : ArOK A l at') {id : Nat} (ha : A id = none) : khas at' id = false := by
  rw [h.a] at ha
  split at ha
  · cases ha
  · rename_i hk; simpa using hk
theorem ar_put {A : Nat → Option (List UInt8)} {l : List SB} {at' : List (Nat × Int)} (h : ArOK A l at') (id : Nat) (hid : id < 18446744073709551616) (b : List UInt8) (hb : b.length ≤ 60000) : ArOK (updO A id (some b)) (putL l at' id hid b) (putA l at' id) := by
  refine ⟨put_wfa h.wf id hid b, kn_put h.kn id, fun x => ?_, put_all (fun s => s.bs.length ≤ 60000) id hid b (Nat.zero_le _) (fun s => hb) h.sb⟩
  unfold updO
  rw [put_has]
  by_cases e : x = id
  · rw [if_pos e, if_pos (by simp [e]), put_rec h.wf id hid b x (.inr e), if_pos e]
  · rw [if_neg e, h.a]
    by_cases hk : khas at' x = true
    · rw [if_pos hk, if_pos (by simp [hk]), put_rec h.wf id hid b x (.inl hk), if_neg e]
    · rw [if_neg hk, if_neg (by simp [e, hk])]
theorem ar_del {A : Nat → Option (List UInt8)} {l : List SB} {at' : List (Nat × Int)} (h : ArOK A l at') {id j : Nat} (hk : khas at' id = true) (hj : klook at' id = ((j : Nat) : Int)) (hjl : j < l.length) : ArOK (updO A id none) (l.set j (goneS (l.getD j default))) (gdel at' id) := by
  refine ⟨wfa_del h.wf h.kn hk hj hjl, kn_del h.kn id, fun x => ?_, fun s hs => ?_⟩
  · unfold updO
    rw [khas_del h.kn]
    by_cases e : x = id
    · rw [if_pos e, if_neg (by simp [e])]
    · rw [if_neg e, h.a]
      by_cases hk2 : khas at' x = true
      · rw [if_pos hk2, if_pos (by simp [e, hk2]), rec_del h.wf h.kn hk hj hjl e hk2]
      · rw [if_neg hk2, if_neg (by simp [hk2])]
  · rcases List.mem_or_eq_of_mem_set hs with h1 | h1
    · exact h.sb s h1
    · rw [h1]; exact Nat.zero_le _
theorem ar_ids {A : Nat → Option (List UInt8)} {l : List SB} {at' : List (Nat × Int)} (h : ArOK A l at') (id : Nat) : id ∈ idsA l ↔ (A id).isSome = true := by
  rw [ids_mem h.wf, h.a]
  by_cases hk : khas at' id = true <;> simp [hk]
end Go.Proofs.Ythfgocinlbogeaa
set_option maxHeartbeats 4000000
namespace Go.Proofs.Ythfgocinlbogeaa
open Go.Ts
set_option linter.unusedSimpArgs false
set_option linter.unusedVariables false
attribute [local irreducible] Go.Ts.AW Go.Ts.AOps Go.Ts.AL Go.Ts.AOp Go.Ts.ACalls Go.Ts.DL Go.Ts.DQ Go.Ts.DQ0 Go.Ts.EL
theorem clone_nil : Ts.Pure Try.prog 44 [.nilsl] .nilsl := by
  intro off
  refine Af (N := 8) (rs := [.tmp 2]) hG Try.func44 rfl rfl rfl rfl rfl ?_
  repeat' (first | (show AL _ _ _ _ _ _ _ _; first | refine so2 ?_ | (refine sa ?_; intro k)) | (show AW _ _ _ _ _ _; first | (show AW _ _ (.region _ _ _) _ _ _; refine sc0 ?_; intro O1) | (refine sc1 ?_; try intro Q1)) | (show (_ → _) ∧ _; refine ⟨fun h => ?_, fun h => ?_⟩) | fail)
  refine Ac rfl (op_q hG (t := .bool true) rfl rfl rfl ?_)
  repeat' (first | (show AL _ _ _ _ _ _ _ _; first | refine so2 ?_ | (refine sa ?_; intro k)) | (show AW _ _ _ _ _ _; first | (show AW _ _ (.region _ _ _) _ _ _; refine sc0 ?_; intro O1) | (refine sc1 ?_; try intro Q1)) | (show (_ → _) ∧ _; refine ⟨fun h => ?_, fun h => ?_⟩) | fail)
  exact Bj (Ae rfl Ag) (.refl _) rfl
theorem clone_rec (s : SB) (h : s.bs.length ≤ 1000000) : Ts.Pure Try.prog 44 [recT s] (recT s) := by
  unfold recT
  cases s.taken with
  | true => exact clone_p (by omega)
  | false => exact clone_nil
theorem okMs_row (l : List SB) : okMs (flat (l.map sbT)) = true := by
  induction l with
  | nil => rfl
  | cons s l ih =>
    rw [List.map_cons, flat_cons]
    show okMs ([T.int .u64 (s.id : Int), recT s, .bool s.taken, .int .i64 s.turn] ++ flat (l.map sbT)) = true
    have hb : ∀ b : List UInt8, okMs (b.map bT) = true := fun b => by induction b with
      | nil => rfl
      | cons x b ih => simp only [List.map_cons, okMs, ih]; rfl
    have : okM (recT s) = true := by unfold recT; cases s.taken <;> simp [okM, hb]
    simp only [List.cons_append, List.nil_append, okMs, this, ih]; rfl
theorem okMs_kv (m : List (Nat × Int)) : okOb (.map (m.map kvT)) = true := by
  have h1 : okMs ((m.map kvT).map Prod.fst) = true := by induction m with
    | nil => rfl
    | cons x m ih => simp only [List.map_cons, okMs, ih]; rfl
  have h2 : okMs ((m.map kvT).map Prod.snd) = true := by
   clear h1
   induction m with
    | nil => rfl
    | cons x m ih => simp only [List.map_cons, okMs, ih]; rfl
  simp only [okOb, h1, h2]; rfl
theorem okL_row (l : List SB) (i : Nat) : okL (rowOf l i) = true := by
  cases l with
  | nil => rfl
  | cons s l => simp only [rowOf, okL, List.all_cons, List.all_nil, okOb, okMs_row, Bool.and_true]
theorem okM_slT (l : List SB) (i : Nat) : okM (slT l i) = true := by cases l <;> rfl
theorem kset_new {m : List (Nat × Int)} {k : Nat} {v : Int} (h : k ∉ m.map (·.1)) : kset m k v = m ++ [(k, v)] := by
  unfold kset
  have : kfind k m 0 = none := by
    cases hq : kfind k m 0 with
    | none => rfl
    | some x => exact absurd ((khas_iff m 0).1 (by rw [hq]; rfl)) h
  rw [this]
theorem glook_perm {α : Type} {m m' : List (Nat × α)} (hp : m.Perm m') : (m.map (·.1)).Nodup → ∀ k, glook m k = glook m' k := by
  induction hp with
  | nil => intro _ k; rfl
  | cons x h ih =>
    intro hn k
    rw [List.map_cons, List.nodup_cons] at hn
    simp only [glook, ih hn.2 k]
  | swap x y l =>
    intro hn k
    rw [List.map_cons, List.map_cons, List.nodup_cons, List.nodup_cons] at hn
    have hxy : y.1 ≠ x.1 := fun e => hn.1 (by rw [e]; exact List.mem_cons_self)
    simp only [glook]
    by_cases h1 : k = y.1
    · subst h1; simp [hxy]
    · by_cases h2 : k = x.1
      · subst h2; simp [h1]
      · simp [h1, h2]
  | trans h1 h2 ih1 ih2 => intro hn k; rw [ih1 hn k, ih2 ((h1.map _).nodup_iff.1 hn) k]
def entA (at' : List (Nat × Int)) (done : List Nat) : List (Nat × Int) := done.map fun j => at'.getD j (0, 0)
theorem entA_snoc (at' : List (Nat × Int)) (done : List Nat) (j : Nat) : entA at' (done ++ [j]) = entA at' done ++ [at'.getD j (0, 0)] := by simp [entA]
theorem getD_inj {at' : List (Nat × Int)} (hn : KN at') {i j : Nat} (hi : i < at'.length) (hj : j < at'.length) (h : (at'.getD i (0, 0)).1 = (at'.getD j (0, 0)).1) : i = j := by
  have h1 : (at'.map (·.1))[i]? = (at'.map (·.1))[j]? := by
    rw [List.getElem?_map, List.getElem?_map, List.getElem?_eq_getElem hi, List.getElem?_eq_getElem hj]
    simp only [List.getD, List.getElem?_eq_getElem hi, List.getElem?_eq_getElem hj, Option.getD_some] at h
    simp [h]
  exact (List.getElem?_inj (by simpa using hi) hn).1 h1
theorem entA_new {at' : List (Nat × Int)} (hn : KN at') {done : List Nat} {j : Nat} (hlt : ∀ i ∈ done, i < at'.length) (hj : j < at'.length) (hjd : j ∉ done) : (at'.getD j (0, 0)).1 ∉ (entA at' done).map (·.1) := by
  intro h
  simp only [entA, List.map_map, List.mem_map, Function.comp] at h
  obtain ⟨i, hi, he⟩ := h
  exact hjd (getD_inj hn (hlt i hi) hj he ▸ hi)
theorem entA_perm {at' : List (Nat × Int)} {done : List Nat} (hnd : done.Nodup) (hlt : ∀ i ∈ done, i < at'.length) (hl : done.length = at'.length) : (entA at' done).Perm at' := by
  have hp : done.Perm (List.range at'.length) := by
    refine (List.perm_ext_iff_of_nodup hnd List.nodup_range).2 fun i => ?_
    rw [List.mem_range]
    refine ⟨hlt i, fun hi => ?_⟩
    by_cases hm : i ∈ done
    · exact hm
    · have := nodup_le at'.length (done ++ [i]) (List.nodup_append.2 ⟨hnd, by simp, fun a ha b hb => by simp at hb; subst hb; rintro rfl; exact hm ha⟩) (fun j hj => by
        rcases List.mem_append.1 hj with h | h
        · exact hlt j h
        · simp at h; omega)
      simp at this; omega
  have h2 : entA at' (List.range at'.length) = at' := by
    unfold entA
    apply List.ext_getElem?
    intro i
    rw [List.getElem?_map]
    by_cases h : i < at'.length
    · rw [List.getElem?_range h]; simp [h, List.getD]
    · rw [List.getElem?_eq_none (by simp; omega), List.getElem?_eq_none (by omega)]; rfl
  have h3 := hp.map (fun j => at'.getD j (0, 0))
  rw [show (List.range at'.length).map (fun j => at'.getD j (0, 0)) = at' from h2] at h3
  exact h3
structure CyX (l : List SB) where
  q : Nat
  i2 : Nat
  hq : q ≤ l.length
set_option maxHeartbeats 9000000 in
theorem arena_Copy (v : UInt8) (l : List SB) (at' : List (Nat × Int)) (hl : l.length ≤ 1000000) (hb : ∀ s ∈ l, s.bs.length ≤ 1000000) (hn : KN at') (p i m : Nat) :
    OnL Try.prog 39 [.ptr p 0] (arL v l at' p i m) (fun u L => ∃ p2 i2 m2 at2, u = .ptr p2 0 ∧ KN at2 ∧ (∀ k, khas at2 k = khas at' k ∧ klook at2 k = klook at' k) ∧ L = arL v l at2 p2 i2 m2 ++ arL v l at' p i m) := by
  have hN := arena_New v
  intro off
  refine Af (N := 56) (rs := [.tmp 2]) hG Try.func39 rfl rfl rfl rfl rfl ?_
  repeat' (first | (show AL _ _ _ _ _ _ _ _; first | refine so2 ?_ | (refine sa ?_; intro k) | (refine sb ?_; intro i)) | (show DL _ _ _ _ _ _ _; first | refine do2 ?_) | (show AW _ _ _ _ _ _; first | (show AW _ _ (.region _ _ _) _ _ _; refine sc0 ?_; intro O1) | (refine sc1 ?_; try intro Q1)) | (show (_ → _) ∧ _; refine ⟨fun h => ?_, fun h => ?_⟩) | fail)
  refine al_on hN rfl rfl rfl rfl rfl rfl .nil ?_
  rintro u L' ⟨p2, m2, rfl, rfl⟩
  repeat' (first | (show AL _ _ _ _ _ _ _ _; first | refine so2 ?_ | (refine sa ?_; intro k) | (refine sb ?_; intro i)) | (show DL _ _ _ _ _ _ _; first | refine do2 ?_) | (show AW _ _ _ _ _ _; (fail_if_success show AW _ _ (.seq (.region 4 _ _) _) _ _ _); first | (show AW _ _ (.region _ _ _) _ _ _; refine sc0 ?_; intro O1) | (refine sc1 ?_; try intro Q1)) | (show (_ → _) ∧ _; refine ⟨fun h => ?_, fun h => ?_⟩) | fail)
  refine aw_midM (X := Nat) (fun _ => [(0, .ptr p 0), (3, .ptr p2 0)]) (fun i2 => ⟨arL v l [] p2 i2 m2 ++ arL v l at' p i m, [], off, none⟩) ?_ ?_
  · by_cases hne : l = []
    · subst hne
      repeat' (first | (show AL _ _ _ _ _ _ _ _; first | refine so2 ?_ | (refine sa ?_; intro k) | (refine sb ?_; intro i)) | (show DL _ _ _ _ _ _ _; first | refine do2 ?_) | (show AW _ _ _ _ _ _; first | (show AW _ _ (.region _ _ _) _ _ _; refine sc0 ?_; intro O1) | (refine sc1 ?_; try intro Q1)) | (show (_ → _) ∧ _; refine ⟨fun h => ?_, fun h => ?_⟩) | fail)
      refine A5 (X := Unit) (fun _ => [(0, .ptr p 0), (3, .ptr p2 0), (19, .int .i64 0), (20, .int .i64 0)]) (fun _ => ⟨arL v [] [] p2 0 m2 ++ arL v [] at' p i m, [], off, none⟩) (fun _ => 0) () (.cons rfl (.cons rfl (.cons rfl (.cons rfl (.nil _))))) (.refl _) ?_
      rintro ⟨⟩
      repeat' (first | (show AL _ _ _ _ _ _ _ _; first | refine so2 ?_ | (refine sa ?_; intro k) | (refine sb ?_; intro i)) | (show DL _ _ _ _ _ _ _; first | refine do2 ?_) | (show AW _ _ _ _ _ _; first | (show AW _ _ (.region _ _ _) _ _ _; refine sc0 ?_; intro O1) | (refine sc1 ?_; try intro Q1)) | (show (_ → _) ∧ _; refine ⟨fun h => ?_, fun h => ?_⟩) | fail)
      refine Be ?_
      dsimp (config := { zetaDelta := true }) only [A7, Am, jumpA, noGotoA]
      exact ⟨0, .cons rfl (.cons rfl (.nil _)), .refl _⟩
    · rw [arL_ne (at' := at') hne]
      repeat' (first | (show AL _ _ _ _ _ _ _ _; first | refine so2 ?_ | (refine sa ?_; intro k) | (refine sb ?_; intro i)) | (show DL _ _ _ _ _ _ _; first | refine do2 ?_) | (show AW _ _ _ _ _ _; first | (show AW _ _ (.region _ _ _) _ _ _; refine sc0 ?_; intro O1) | (refine sc1 ?_; try intro Q1)) | (show (_ → _) ∧ _; refine ⟨fun h => ?_, fun h => ?_⟩) | fail)
      refine A5 (X := CyX l) (fun x => [(0, .ptr p 0), (3, .ptr p2 0), (18, .aref 4 i 0 l.length none), (19, .int .i64 (l.length : Int)), (20, .int .i64 (x.q : Int))]) (fun x => ⟨(p2, .cells [bT v, slT (l.take x.q) x.i2, .map (some m2)]) :: (m2, .map []) :: (rowOf (l.take x.q) x.i2 ++ [(p, .cells [bT v, .aref 4 i 0 l.length none, .map (some m)]), (m, .map (at'.map kvT)), (i, .cells (flat (l.map sbT)))]), [], off, none⟩) (fun x => l.length - x.q) ⟨0, 0, Nat.zero_le _⟩ (.cons rfl (.cons rfl (.cons rfl (.cons rfl (.consW rfl (.int rfl) (.nil _)))))) (.refl _) ?_
      rintro ⟨q, i2, hq⟩
      dsimp only
      by_cases hql : q < l.length
      · have hc := clone_rec (l.getD q default) (hb _ (by simp [List.getD, hql]))
        have htk : l.take (q + 1) = l.take q ++ [l.getD q default] := by rw [List.take_add_one]; simp [List.getD, hql]
        cases q with
        | zero =>
          rw [List.take_zero]
          dsimp only [slT, rowOf, List.nil_append]
          repeat' (first | (show AL _ _ _ _ _ _ _ _; first | (refine Ac Y ?_; (first | (show AOp _ _ ⟨_, .indexAddr _ _ _, _, _, _, _⟩ _ _ _; refine Ak (sz := 4) hG Y Y Y Y Y Y Y (by omega) ?_) | (show AOp _ _ ⟨_, .load _ _, _, _, _, _⟩ _ _ _; first | refine Ab 0 sbT hG Y Y Y Y Y (by omega) Y ?_ | refine Aa 0 sbT hG Y Y Y Y Y (by omega) Y ?_ | refine Ab 1 sbT hG Y Y Y Y Y (by omega) Y ?_ | refine Aa 1 sbT hG Y Y Y Y Y (by omega) Y ?_ | refine Ab 2 sbT hG Y Y Y Y Y (by omega) Y ?_ | refine Aa 2 sbT hG Y Y Y Y Y (by omega) Y ?_ | refine Ab 3 sbT hG Y Y Y Y Y (by omega) Y ?_ | refine Aa 3 sbT hG Y Y Y Y Y (by omega) Y ?_))) | refine so2 ?_ | refine sp Y Y Y Y Y Y (by apply hc <;> exact sd) ?_ | (refine sa ?_; intro k) | (refine sb ?_; intro sj)) | (show DL _ _ _ _ _ _ _; first | (refine' Ap Y Y (fun K kk => ?_) ?_; (try (show Go.Ts.T; rotate_left)); (first | (show AOp _ _ ⟨_, .indexAddr _ _ _, _, _, _, _⟩ _ _ _; refine Ak (sz := 4) hG Y Y Y Y Y Y Y (by omega) ?_) | (show AOp _ _ ⟨_, .load _ _, _, _, _, _⟩ _ _ _; first | refine Ab 0 sbT hG Y Y Y Y Y (by omega) Y ?_ | refine Aa 0 sbT hG Y Y Y Y Y (by omega) Y ?_ | refine Ab 1 sbT hG Y Y Y Y Y (by omega) Y ?_ | refine Aa 1 sbT hG Y Y Y Y Y (by omega) Y ?_ | refine Ab 2 sbT hG Y Y Y Y Y (by omega) Y ?_ | refine Aa 2 sbT hG Y Y Y Y Y (by omega) Y ?_ | refine Ab 3 sbT hG Y Y Y Y Y (by omega) Y ?_ | refine Aa 3 sbT hG Y Y Y Y Y (by omega) Y ?_)); exact kk) | refine do2 ?_ | refine dp Y Y Y Y Y Y Y (by apply hc <;> exact sd) ?_) | (show AW _ _ _ _ _ _; (fail_if_success show AW _ _ (.region 8 _ _) _ _ _); first | (show AW _ _ (.region _ _ _) _ _ _; refine sc0 ?_; intro O1) | (refine sc1 ?_; try intro Q1)) | (show (_ → _) ∧ _; refine ⟨fun h => ?_, fun h => ?_⟩) | fail)
          refine Ac rfl (Aa 4 sbT hG rfl rfl rfl rfl rfl hql rfl ?_)
          generalize l.getD 0 default = s at *
          obtain ⟨id, bs, tk, tn, hid⟩ := s
          cases tk
          · repeat' (first | (show AL _ _ _ _ _ _ _ _; first | (refine Ac Y ?_; (first | (show AOp _ _ ⟨_, .indexAddr _ _ _, _, _, _, _⟩ _ _ _; refine Ak (sz := 4) hG Y Y Y Y Y Y Y (by omega) ?_) | (show AOp _ _ ⟨_, .load _ _, _, _, _, _⟩ _ _ _; first | refine Ab 0 sbT hG Y Y Y Y Y (by omega) Y ?_ | refine Aa 0 sbT hG Y Y Y Y Y (by omega) Y ?_ | refine Ab 1 sbT hG Y Y Y Y Y (by omega) Y ?_ | refine Aa 1 sbT hG Y Y Y Y Y (by omega) Y ?_ | refine Ab 2 sbT hG Y Y Y Y Y (by omega) Y ?_ | refine Aa 2 sbT hG Y Y Y Y Y (by omega) Y ?_ | refine Ab 3 sbT hG Y Y Y Y Y (by omega) Y ?_ | refine Aa 3 sbT hG Y Y Y Y Y (by omega) Y ?_))) | refine so2 ?_ | refine sp Y Y Y Y Y Y (by apply hc <;> exact sd) ?_ | (refine sa ?_; intro k) | (refine sb ?_; intro sj)) | (show DL _ _ _ _ _ _ _; first | (refine' Ap Y Y (fun K kk => ?_) ?_; (try (show Go.Ts.T; rotate_left)); (first | (show AOp _ _ ⟨_, .indexAddr _ _ _, _, _, _, _⟩ _ _ _; refine Ak (sz := 4) hG Y Y Y Y Y Y Y (by omega) ?_) | (show AOp _ _ ⟨_, .load _ _, _, _, _, _⟩ _ _ _; first | refine Ab 0 sbT hG Y Y Y Y Y (by omega) Y ?_ | refine Aa 0 sbT hG Y Y Y Y Y (by omega) Y ?_ | refine Ab 1 sbT hG Y Y Y Y Y (by omega) Y ?_ | refine Aa 1 sbT hG Y Y Y Y Y (by omega) Y ?_ | refine Ab 2 sbT hG Y Y Y Y Y (by omega) Y ?_ | refine Aa 2 sbT hG Y Y Y Y Y (by omega) Y ?_ | refine Ab 3 sbT hG Y Y Y Y Y (by omega) Y ?_ | refine Aa 3 sbT hG Y Y Y Y Y (by omega) Y ?_)); exact kk) | refine do2 ?_ | refine dp Y Y Y Y Y Y Y (by apply hc <;> exact sd) ?_) | (show AW _ _ _ _ _ _; (fail_if_success show AW _ _ (.region 8 _ _) _ _ _); first | (show AW _ _ (.region _ _ _) _ _ _; refine sc0 ?_; intro O1) | (refine sc1 ?_; try intro Q1)) | (show (_ → _) ∧ _; refine ⟨fun h => ?_, fun h => ?_⟩) | fail)
            refine Bh (m := 11) [4, 7, 10] (Cont [(sj, .cells (sbT ⟨id, bs, false, tn, hid⟩).cells)]) mix Y (by repeat (first | exact Sp.zero _ | apply Sp.succ)) ?_; intro O1 F1 Z1 Q2; repeat' (first | (show DQ _ _ _ _ _ _ _ _ _; first | refine ep2 ?_) | (show EL _ _ _ _ _ _ _ _ _; first | refine eqc ?_ | (refine ec ?_; intro i)) | (show (_ → _) ∧ _; refine ⟨fun h => ?_, fun h => ?_⟩) | fail)
            refine A1 (Cont.of rfl hs) rfl rfl rfl (fun K ke => ?_)
            refine r_ldM hG rfl hs (by exact rfl) rfl ?_
            refine ke _ _ ?_
            refine A1 (Cont.of rfl hs) rfl rfl rfl (fun K ke => ?_)
            refine aop_app0L (objs := fun _ => none) (ys := [sbT ⟨id, bs, false, tn, hid⟩]) hG rfl rfl rfl rfl rfl ⟨_, rfl⟩ rfl rfl (fun i o h => by cases h) rfl rfl (by simp) (by simp) rfl (fun i3 hi3 => ?_)
            refine ke _ _ ?_
            refine Ba (Cont.of rfl hs) rfl rfl rfl (fun K ke => ?_)
            refine r_stM hG rfl rfl hs rfl rfl rfl (by exact rfl) ?_
            refine ke (.tup []) _ ?_
            refine eqc ?_
            repeat' (first | (show AL _ _ _ _ _ _ _ _; first | refine so2 ?_ | (refine sa ?_; intro k) | (refine sb ?_; intro i)) | (show DL _ _ _ _ _ _ _; first | refine do2 ?_) | (show AW _ _ _ _ _ _; first | (show AW _ _ (.region _ _ _) _ _ _; refine sc0 ?_; intro O1) | (refine sc1 ?_; try intro Q1)) | (show (_ → _) ∧ _; refine ⟨fun h => ?_, fun h => ?_⟩) | fail)
            refine ⟨⟨0 + 1, i3, by omega⟩, by dsimp only; omega, .cons rfl (.cons rfl (.cons rfl (.cons rfl (.consW rfl (.int (by simp)) (.nil _))))), ?_⟩
            dsimp only
            rw [htk]
            exact pk_step hs (List.nil_sublist _)
          · repeat' (first | (show AL _ _ _ _ _ _ _ _; first | (refine Ac Y ?_; (first | (show AOp _ _ ⟨_, .indexAddr _ _ _, _, _, _, _⟩ _ _ _; refine Ak (sz := 4) hG Y Y Y Y Y Y Y (by omega) ?_) | (show AOp _ _ ⟨_, .load _ _, _, _, _, _⟩ _ _ _; first | refine Ab 0 sbT hG Y Y Y Y Y (by omega) Y ?_ | refine Aa 0 sbT hG Y Y Y Y Y (by omega) Y ?_ | refine Ab 1 sbT hG Y Y Y Y Y (by omega) Y ?_ | refine Aa 1 sbT hG Y Y Y Y Y (by omega) Y ?_ | refine Ab 2 sbT hG Y Y Y Y Y (by omega) Y ?_ | refine Aa 2 sbT hG Y Y Y Y Y (by omega) Y ?_ | refine Ab 3 sbT hG Y Y Y Y Y (by omega) Y ?_ | refine Aa 3 sbT hG Y Y Y Y Y (by omega) Y ?_))) | refine so2 ?_ | refine sp Y Y Y Y Y Y (by apply hc <;> exact sd) ?_ | (refine sa ?_; intro k) | (refine sb ?_; intro sj)) | (show DL _ _ _ _ _ _ _; first | (refine' Ap Y Y (fun K kk => ?_) ?_; (try (show Go.Ts.T; rotate_left)); (first | (show AOp _ _ ⟨_, .indexAddr _ _ _, _, _, _, _⟩ _ _ _; refine Ak (sz := 4) hG Y Y Y Y Y Y Y (by omega) ?_) | (show AOp _ _ ⟨_, .load _ _, _, _, _, _⟩ _ _ _; first | refine Ab 0 sbT hG Y Y Y Y Y (by omega) Y ?_ | refine Aa 0 sbT hG Y Y Y Y Y (by omega) Y ?_ | refine Ab 1 sbT hG Y Y Y Y Y (by omega) Y ?_ | refine Aa 1 sbT hG Y Y Y Y Y (by omega) Y ?_ | refine Ab 2 sbT hG Y Y Y Y Y (by omega) Y ?_ | refine Aa 2 sbT hG Y Y Y Y Y (by omega) Y ?_ | refine Ab 3 sbT hG Y Y Y Y Y (by omega) Y ?_ | refine Aa 3 sbT hG Y Y Y Y Y (by omega) Y ?_)); exact kk) | refine do2 ?_ | refine dp Y Y Y Y Y Y Y (by apply hc <;> exact sd) ?_) | (show AW _ _ _ _ _ _; (fail_if_success show AW _ _ (.region 8 _ _) _ _ _); first | (show AW _ _ (.region _ _ _) _ _ _; refine sc0 ?_; intro O1) | (refine sc1 ?_; try intro Q1)) | (show (_ → _) ∧ _; refine ⟨fun h => ?_, fun h => ?_⟩) | fail)
            refine Bh (m := 11) [4, 7, 10] (Cont [(sj, .cells (sbT ⟨id, bs, true, tn, hid⟩).cells)]) mix Y (by repeat (first | exact Sp.zero _ | apply Sp.succ)) ?_; intro O1 F1 Z1 Q2; repeat' (first | (show DQ _ _ _ _ _ _ _ _ _; first | refine ep2 ?_) | (show EL _ _ _ _ _ _ _ _ _; first | refine eqc ?_ | (refine ec ?_; intro i)) | (show (_ → _) ∧ _; refine ⟨fun h => ?_, fun h => ?_⟩) | fail)
            refine A1 (Cont.of rfl hs) rfl rfl rfl (fun K ke => ?_)
            refine r_ldM hG rfl hs (by exact rfl) rfl ?_
            refine ke _ _ ?_
            refine A1 (Cont.of rfl hs) rfl rfl rfl (fun K ke => ?_)
            refine aop_app0L (objs := fun _ => none) (ys := [sbT ⟨id, bs, true, tn, hid⟩]) hG rfl rfl rfl rfl rfl ⟨_, rfl⟩ rfl rfl (fun i o h => by cases h) rfl rfl (by simp) (by simp) rfl (fun i3 hi3 => ?_)
            refine ke _ _ ?_
            refine Ba (Cont.of rfl hs) rfl rfl rfl (fun K ke => ?_)
            refine r_stM hG rfl rfl hs rfl rfl rfl (by exact rfl) ?_
            refine ke (.tup []) _ ?_
            refine eqc ?_
            repeat' (first | (show AL _ _ _ _ _ _ _ _; first | refine so2 ?_ | (refine sa ?_; intro k) | (refine sb ?_; intro i)) | (show DL _ _ _ _ _ _ _; first | refine do2 ?_) | (show AW _ _ _ _ _ _; first | (show AW _ _ (.region _ _ _) _ _ _; refine sc0 ?_; intro O1) | (refine sc1 ?_; try intro Q1)) | (show (_ → _) ∧ _; refine ⟨fun h => ?_, fun h => ?_⟩) | fail)
            refine ⟨⟨0 + 1, i3, by omega⟩, by dsimp only; omega, .cons rfl (.cons rfl (.cons rfl (.cons rfl (.consW rfl (.int (by simp)) (.nil _))))), ?_⟩
            dsimp only
            rw [htk]
            exact pk_step hs (List.nil_sublist _)
        | succ q =>
          have hne2 : l.take (q + 1) ≠ [] := List.ne_nil_of_length_pos (by rw [List.length_take]; omega)
          rw [slT_ne hne2, rowOf_ne hne2]
          repeat' (first | (show AL _ _ _ _ _ _ _ _; first | (refine Ac Y ?_; (first | (show AOp _ _ ⟨_, .indexAddr _ _ _, _, _, _, _⟩ _ _ _; refine Ak (sz := 4) hG Y Y Y Y Y Y Y (by omega) ?_) | (show AOp _ _ ⟨_, .load _ _, _, _, _, _⟩ _ _ _; first | refine Ab 0 sbT hG Y Y Y Y Y (by omega) Y ?_ | refine Aa 0 sbT hG Y Y Y Y Y (by omega) Y ?_ | refine Ab 1 sbT hG Y Y Y Y Y (by omega) Y ?_ | refine Aa 1 sbT hG Y Y Y Y Y (by omega) Y ?_ | refine Ab 2 sbT hG Y Y Y Y Y (by omega) Y ?_ | refine Aa 2 sbT hG Y Y Y Y Y (by omega) Y ?_ | refine Ab 3 sbT hG Y Y Y Y Y (by omega) Y ?_ | refine Aa 3 sbT hG Y Y Y Y Y (by omega) Y ?_))) | refine so2 ?_ | refine sp Y Y Y Y Y Y (by apply hc <;> exact sd) ?_ | (refine sa ?_; intro k) | (refine sb ?_; intro sj)) | (show DL _ _ _ _ _ _ _; first | (refine' Ap Y Y (fun K kk => ?_) ?_; (try (show Go.Ts.T; rotate_left)); (first | (show AOp _ _ ⟨_, .indexAddr _ _ _, _, _, _, _⟩ _ _ _; refine Ak (sz := 4) hG Y Y Y Y Y Y Y (by omega) ?_) | (show AOp _ _ ⟨_, .load _ _, _, _, _, _⟩ _ _ _; first | refine Ab 0 sbT hG Y Y Y Y Y (by omega) Y ?_ | refine Aa 0 sbT hG Y Y Y Y Y (by omega) Y ?_ | refine Ab 1 sbT hG Y Y Y Y Y (by omega) Y ?_ | refine Aa 1 sbT hG Y Y Y Y Y (by omega) Y ?_ | refine Ab 2 sbT hG Y Y Y Y Y (by omega) Y ?_ | refine Aa 2 sbT hG Y Y Y Y Y (by omega) Y ?_ | refine Ab 3 sbT hG Y Y Y Y Y (by omega) Y ?_ | refine Aa 3 sbT hG Y Y Y Y Y (by omega) Y ?_)); exact kk) | refine do2 ?_ | refine dp Y Y Y Y Y Y Y (by apply hc <;> exact sd) ?_) | (show AW _ _ _ _ _ _; (fail_if_success show AW _ _ (.region 8 _ _) _ _ _); first | (show AW _ _ (.region _ _ _) _ _ _; refine sc0 ?_; intro O1) | (refine sc1 ?_; try intro Q1)) | (show (_ → _) ∧ _; refine ⟨fun h => ?_, fun h => ?_⟩) | fail)
          refine Ac rfl (Aa 5 sbT hG rfl rfl rfl rfl rfl hql rfl ?_)
          generalize l.getD (q + 1) default = s at *
          obtain ⟨id, bs, tk, tn, hid⟩ := s
          cases tk
          · repeat' (first | (show AL _ _ _ _ _ _ _ _; first | (refine Ac Y ?_; (first | (show AOp _ _ ⟨_, .indexAddr _ _ _, _, _, _, _⟩ _ _ _; refine Ak (sz := 4) hG Y Y Y Y Y Y Y (by omega) ?_) | (show AOp _ _ ⟨_, .load _ _, _, _, _, _⟩ _ _ _; first | refine Ab 0 sbT hG Y Y Y Y Y (by omega) Y ?_ | refine Aa 0 sbT hG Y Y Y Y Y (by omega) Y ?_ | refine Ab 1 sbT hG Y Y Y Y Y (by omega) Y ?_ | refine Aa 1 sbT hG Y Y Y Y Y (by omega) Y ?_ | refine Ab 2 sbT hG Y Y Y Y Y (by omega) Y ?_ | refine Aa 2 sbT hG Y Y Y Y Y (by omega) Y ?_ | refine Ab 3 sbT hG Y Y Y Y Y (by omega) Y ?_ | refine Aa 3 sbT hG Y Y Y Y Y (by omega) Y ?_))) | refine so2 ?_ | refine sp Y Y Y Y Y Y (by apply hc <;> exact sd) ?_ | (refine sa ?_; intro k) | (refine sb ?_; intro sj)) | (show DL _ _ _ _ _ _ _; first | (refine' Ap Y Y (fun K kk => ?_) ?_; (try (show Go.Ts.T; rotate_left)); (first | (show AOp _ _ ⟨_, .indexAddr _ _ _, _, _, _, _⟩ _ _ _; refine Ak (sz := 4) hG Y Y Y Y Y Y Y (by omega) ?_) | (show AOp _ _ ⟨_, .load _ _, _, _, _, _⟩ _ _ _; first | refine Ab 0 sbT hG Y Y Y Y Y (by omega) Y ?_ | refine Aa 0 sbT hG Y Y Y Y Y (by omega) Y ?_ | refine Ab 1 sbT hG Y Y Y Y Y (by omega) Y ?_ | refine Aa 1 sbT hG Y Y Y Y Y (by omega) Y ?_ | refine Ab 2 sbT hG Y Y Y Y Y (by omega) Y ?_ | refine Aa 2 sbT hG Y Y Y Y Y (by omega) Y ?_ | refine Ab 3 sbT hG Y Y Y Y Y (by omega) Y ?_ | refine Aa 3 sbT hG Y Y Y Y Y (by omega) Y ?_)); exact kk) | refine do2 ?_ | refine dp Y Y Y Y Y Y Y (by apply hc <;> exact sd) ?_) | (show AW _ _ _ _ _ _; (fail_if_success show AW _ _ (.region 8 _ _) _ _ _); first | (show AW _ _ (.region _ _ _) _ _ _; refine sc0 ?_; intro O1) | (refine sc1 ?_; try intro Q1)) | (show (_ → _) ∧ _; refine ⟨fun h => ?_, fun h => ?_⟩) | fail)
            refine Bh (m := 11) [4, 7, 10] (Cont [(sj, .cells (sbT ⟨id, bs, false, tn, hid⟩).cells)]) mix Y (by repeat (first | exact Sp.zero _ | apply Sp.succ)) ?_; intro O1 F1 Z1 Q2; repeat' (first | (show DQ _ _ _ _ _ _ _ _ _; first | refine ep2 ?_) | (show EL _ _ _ _ _ _ _ _ _; first | refine eqc ?_ | (refine ec ?_; intro i)) | (show (_ → _) ∧ _; refine ⟨fun h => ?_, fun h => ?_⟩) | fail)
            refine A1 (Cont.of rfl hs) rfl rfl rfl (fun K ke => ?_)
            refine r_ldM hG rfl hs (by exact rfl) rfl ?_
            refine ke _ _ ?_
            refine A1 (Cont.of rfl hs) rfl rfl rfl (fun K ke => ?_)
            refine aop_appL (n := 3) (objs := fun _ => none) (ys := [sbT ⟨id, bs, false, tn, hid⟩]) hG rfl rfl rfl rfl rfl ⟨_, rfl⟩ rfl rfl ?_ rfl (fun i o h => by cases h) rfl rfl ?_ ?_ rfl (fun i3 hi3 => ?_)
            · rw [flat_length (enc_sized sbT _), List.length_map]; simp
            · intro y hy
              rw [flat_cons, flat_nil, List.append_nil] at hy
              exact Enc.scal (f := sbT) _ y hy
            · simp only [List.length_take, List.length_cons, List.length_nil]; omega
            refine ke _ _ ?_
            refine Ba (Cont.of rfl hs) rfl rfl rfl (fun K ke => ?_)
            refine r_stM hG rfl rfl hs rfl rfl rfl (by exact rfl) ?_
            refine ke (.tup []) _ ?_
            refine eqc ?_
            repeat' (first | (show AL _ _ _ _ _ _ _ _; first | refine so2 ?_ | (refine sa ?_; intro k) | (refine sb ?_; intro i)) | (show DL _ _ _ _ _ _ _; first | refine do2 ?_) | (show AW _ _ _ _ _ _; first | (show AW _ _ (.region _ _ _) _ _ _; refine sc0 ?_; intro O1) | (refine sc1 ?_; try intro Q1)) | (show (_ → _) ∧ _; refine ⟨fun h => ?_, fun h => ?_⟩) | fail)
            refine ⟨⟨q + 1 + 1, i3, by omega⟩, by dsimp only; omega, .cons rfl (.cons rfl (.cons rfl (.cons rfl (.consW rfl (.int (by simp)) (.nil _))))), ?_⟩
            dsimp only
            rw [htk, slT_ne (by simp), rowOf_ne (by simp), List.length_append, List.map_append, flat_append]
            exact pk_step hs (List.nil_sublist _)
          · repeat' (first | (show AL _ _ _ _ _ _ _ _; first | (refine Ac Y ?_; (first | (show AOp _ _ ⟨_, .indexAddr _ _ _, _, _, _, _⟩ _ _ _; refine Ak (sz := 4) hG Y Y Y Y Y Y Y (by omega) ?_) | (show AOp _ _ ⟨_, .load _ _, _, _, _, _⟩ _ _ _; first | refine Ab 0 sbT hG Y Y Y Y Y (by omega) Y ?_ | refine Aa 0 sbT hG Y Y Y Y Y (by omega) Y ?_ | refine Ab 1 sbT hG Y Y Y Y Y (by omega) Y ?_ | refine Aa 1 sbT hG Y Y Y Y Y (by omega) Y ?_ | refine Ab 2 sbT hG Y Y Y Y Y (by omega) Y ?_ | refine Aa 2 sbT hG Y Y Y Y Y (by omega) Y ?_ | refine Ab 3 sbT hG Y Y Y Y Y (by omega) Y ?_ | refine Aa 3 sbT hG Y Y Y Y Y (by omega) Y ?_))) | refine so2 ?_ | refine sp Y Y Y Y Y Y (by apply hc <;> exact sd) ?_ | (refine sa ?_; intro k) | (refine sb ?_; intro sj)) | (show DL _ _ _ _ _ _ _; first | (refine' Ap Y Y (fun K kk => ?_) ?_; (try (show Go.Ts.T; rotate_left)); (first | (show AOp _ _ ⟨_, .indexAddr _ _ _, _, _, _, _⟩ _ _ _; refine Ak (sz := 4) hG Y Y Y Y Y Y Y (by omega) ?_) | (show AOp _ _ ⟨_, .load _ _, _, _, _, _⟩ _ _ _; first | refine Ab 0 sbT hG Y Y Y Y Y (by omega) Y ?_ | refine Aa 0 sbT hG Y Y Y Y Y (by omega) Y ?_ | refine Ab 1 sbT hG Y Y Y Y Y (by omega) Y ?_ | refine Aa 1 sbT hG Y Y Y Y Y (by omega) Y ?_ | refine Ab 2 sbT hG Y Y Y Y Y (by omega) Y ?_ | refine Aa 2 sbT hG Y Y Y Y Y (by omega) Y ?_ | refine Ab 3 sbT hG Y Y Y Y Y (by omega) Y ?_ | refine Aa 3 sbT hG Y Y Y Y Y (by omega) Y ?_)); exact kk) | refine do2 ?_ | refine dp Y Y Y Y Y Y Y (by apply hc <;> exact sd) ?_) | (show AW _ _ _ _ _ _; (fail_if_success show AW _ _ (.region 8 _ _) _ _ _); first | (show AW _ _ (.region _ _ _) _ _ _; refine sc0 ?_; intro O1) | (refine sc1 ?_; try intro Q1)) | (show (_ → _) ∧ _; refine ⟨fun h => ?_, fun h => ?_⟩) | fail)
            refine Bh (m := 11) [4, 7, 10] (Cont [(sj, .cells (sbT ⟨id, bs, true, tn, hid⟩).cells)]) mix Y (by repeat (first | exact Sp.zero _ | apply Sp.succ)) ?_; intro O1 F1 Z1 Q2; repeat' (first | (show DQ _ _ _ _ _ _ _ _ _; first | refine ep2 ?_) | (show EL _ _ _ _ _ _ _ _ _; first | refine eqc ?_ | (refine ec ?_; intro i)) | (show (_ → _) ∧ _; refine ⟨fun h => ?_, fun h => ?_⟩) | fail)
            refine A1 (Cont.of rfl hs) rfl rfl rfl (fun K ke => ?_)
            refine r_ldM hG rfl hs (by exact rfl) rfl ?_
            refine ke _ _ ?_
            refine A1 (Cont.of rfl hs) rfl rfl rfl (fun K ke => ?_)
            refine aop_appL (n := 3) (objs := fun _ => none) (ys := [sbT ⟨id, bs, true, tn, hid⟩]) hG rfl rfl rfl rfl rfl ⟨_, rfl⟩ rfl rfl ?_ rfl (fun i o h => by cases h) rfl rfl ?_ ?_ rfl (fun i3 hi3 => ?_)
            · rw [flat_length (enc_sized sbT _), List.length_map]; simp
            · intro y hy
              rw [flat_cons, flat_nil, List.append_nil] at hy
              exact Enc.scal (f := sbT) _ y hy
            · simp only [List.length_take, List.length_cons, List.length_nil]; omega
            refine ke _ _ ?_
            refine Ba (Cont.of rfl hs) rfl rfl rfl (fun K ke => ?_)
            refine r_stM hG rfl rfl hs rfl rfl rfl (by exact rfl) ?_
            refine ke (.tup []) _ ?_
            refine eqc ?_
            repeat' (first | (show AL _ _ _ _ _ _ _ _; first | refine so2 ?_ | (refine sa ?_; intro k) | (refine sb ?_; intro i)) | (show DL _ _ _ _ _ _ _; first | refine do2 ?_) | (show AW _ _ _ _ _ _; first | (show AW _ _ (.region _ _ _) _ _ _; refine sc0 ?_; intro O1) | (refine sc1 ?_; try intro Q1)) | (show (_ → _) ∧ _; refine ⟨fun h => ?_, fun h => ?_⟩) | fail)
            refine ⟨⟨q + 1 + 1, i3, by omega⟩, by dsimp only; omega, .cons rfl (.cons rfl (.cons rfl (.cons rfl (.consW rfl (.int (by simp)) (.nil _))))), ?_⟩
            dsimp only
            rw [htk, slT_ne (by simp), rowOf_ne (by simp), List.length_append, List.map_append, flat_append]
            exact pk_step hs (List.nil_sublist _)
      · obtain rfl : q = l.length := by omega
        repeat' (first | (show AL _ _ _ _ _ _ _ _; first | refine so2 ?_ | (refine sa ?_; intro k) | (refine sb ?_; intro i)) | (show DL _ _ _ _ _ _ _; first | refine do2 ?_) | (show AW _ _ _ _ _ _; first | (show AW _ _ (.region _ _ _) _ _ _; refine sc0 ?_; intro O1) | (refine sc1 ?_; try intro Q1)) | (show (_ → _) ∧ _; refine ⟨fun h => ?_, fun h => ?_⟩) | fail)
        refine Be ?_
        dsimp (config := { zetaDelta := true }) only [A7, Am, jumpA, noGotoA]
        refine ⟨i2, .cons rfl (.cons rfl (.nil _)), ?_⟩
        rw [List.take_length]
        exact .refl _
  · intro i2
    have hP : ∀ x : List (Nat × Int), (arL v l x p2 i2 m2 ++ arL v l at' p i m).Perm ((m, .map (at'.map kvT)) :: (p2, .cells [bT v, slT l i2, .map (some m2)]) :: (m2, .map (x.map kvT)) :: (p, .cells [bT v, slT l i, .map (some m)]) :: (rowOf l i2 ++ rowOf l i)) := fun x => by
      have e1 : (rowOf l i2 ++ (p, Ob.cells [bT v, slT l i, .map (some m)]) :: (m, .map (at'.map kvT)) :: rowOf l i).Perm ((p, .cells [bT v, slT l i, .map (some m)]) :: (m, .map (at'.map kvT)) :: (rowOf l i2 ++ rowOf l i)) := List.perm_middle.trans (List.perm_middle.cons _)
      exact ((e1.cons _).cons _).trans (List.perm_middle (l₁ := [(p2, _), (m2, _), (p, _)]))
    refine aw_ghost (perm_step (σ := ⟨arL v l [] p2 i2 m2 ++ arL v l at' p i m, [], off, none⟩) (hP [])) ?_
    refine aw_seq ?_
    refine aw_rangeL (n0 := 4) (nn := 0) (m := m) (es := at'.map kvT) hG () (fun done _ => [(3, .ptr p2 0)]) (fun done _ => ⟨(p2, .cells [bT v, slT l i2, .map (some m2)]) :: (m2, .map ((entA at' done).map kvT)) :: (p, .cells [bT v, slT l i, .map (some m)]) :: (rowOf l i2 ++ rowOf l i), [], off, none⟩) rfl
      (PreB.cons rfl rfl (r_move hG rfl rfl ⟨rfl, rfl⟩) (PreB.cons rfl rfl (r_q hG rfl rfl rfl ⟨rfl, rfl⟩) (PreB.cons rfl rfl (r_q hG rfl rfl rfl ⟨rfl, rfl⟩) (PreB.cons rfl rfl (r_ldM hG rfl hs (by exact rfl) rfl ⟨rfl, rfl⟩) PreB.nil))))
      rfl rfl rfl rfl rfl rfl rfl rfl rfl (fun _ _ => ⟨rfl, rfl⟩) (fun _ _ => rfl) (fun v => .cons rfl (.cons rfl (.nil _))) (.refl _) ?_ (fun _ _ => rfl) (okMs_kv _) ?_ ?_
    · intro done y
      simp only [okL, List.all_cons, List.all_append, Bool.and_eq_true]
      refine ⟨?_, okMs_kv _, ?_, okL_row l i2, okL_row l i⟩
      · simp only [okOb, okMs, okM_slT]; rfl
      · simp only [okOb, okMs, okM_slT]; rfl
    · intro vv done y j k u hnd hlt hjd hes
      rw [List.length_map] at hlt
      rw [List.getElem?_map] at hes
      have hj : j < at'.length := by
        cases hq : at'[j]? with
        | none => rw [hq] at hes; cases hes
        | some x => exact (List.getElem?_eq_some_iff.1 hq).1
      have hx : at'[j]? = some (at'.getD j (0, 0)) := by simp [List.getD, hj]
      rw [hx] at hes
      have hnew := entA_new hn hlt hj hjd
      have hsn := entA_snoc at' done j
      generalize at'.getD j (0, 0) = x at *
      obtain ⟨xk, xv⟩ := x
      injection hes with hes
      injection hes with hes1 hes2
      subst hes1; subst hes2
      have hks : kset (entA at' done) xk xv = entA at' (done ++ [j]) := by rw [hsn]; exact kset_new hnew
      repeat' (first | (show AL _ _ _ _ _ _ _ _; first | refine so2 ?_ | (refine sa ?_; intro k) | (refine sb ?_; intro i)) | (show DL _ _ _ _ _ _ _; first | refine do2 ?_) | (show AW _ _ _ _ _ _; first | (show AW _ _ (.region _ _ _) _ _ _; refine sc0 ?_; intro O1) | (refine sc1 ?_; try intro Q1)) | (show (_ → _) ∧ _; refine ⟨fun h => ?_, fun h => ?_⟩) | fail)
      refine al_nil ?_
      refine ⟨(), .cons rfl (.cons rfl (.nil _)), ?_⟩
      rw [← hks]
      exact .refl _
    · intro done y hnd hlt hfull
      rw [List.length_map] at hlt hfull
      have hpm := entA_perm hnd hlt hfull
      have hkn : KN (entA at' done) := (hpm.map _).nodup_iff.2 hn
      show AW _ _ _ _ _ _
      repeat' (first | (show AL _ _ _ _ _ _ _ _; first | refine so2 ?_ | (refine sa ?_; intro k) | (refine sb ?_; intro i)) | (show DL _ _ _ _ _ _ _; first | refine do2 ?_) | (show AW _ _ _ _ _ _; first | (show AW _ _ (.region _ _ _) _ _ _; refine sc0 ?_; intro O1) | (refine sc1 ?_; try intro Q1)) | (show (_ → _) ∧ _; refine ⟨fun h => ?_, fun h => ?_⟩) | fail)
      exact Az (Ae rfl Ag) (.refl _) (hP (entA at' done)).symm (.refl _) rfl ⟨p2, i2, m2, entA at' done, rfl, hkn, fun k => by rw [khas_g, khas_g, klook_g, klook_g, glook_perm hpm hkn k]; exact ⟨rfl, rfl⟩, rfl⟩
end Go.Proofs.Ythfgocinlbogeaa
namespace Go.Proofs.Ythfgocinlbogeaa
open Go.Ts
set_option linter.unusedSimpArgs false
set_option linter.unusedVariables false
abbrev PB := Nat × List UInt8
def cntP : List PB → Nat → Nat
  | [], _ => 0
  | p :: r, id => if p.1 < id then cntP r id + 1 else 0
def hasP (ps : List PB) (id : Nat) : Bool := decide (cntP ps id < ps.length) && decide ((ps.getD (cntP ps id) (0, [])).1 = id)
def insP (ps : List PB) (id : Nat) (b : List UInt8) : List PB := if hasP ps id = true then ps.set (cntP ps id) (id, b) else ps.take (cntP ps id) ++ (id, b) :: ps.drop (cntP ps id)
def delP (ps : List PB) (id : Nat) : List PB := ps.take (cntP ps id) ++ ps.drop (cntP ps id + 1)
theorem cntP_le : ∀ (ps : List PB) (id : Nat), cntP ps id ≤ ps.length
  | [], _ => Nat.le_refl _
  | p :: r, id => by
    have := cntP_le r id
    unfold cntP; split <;> simp <;> omega
structure Rf (A : Nat → Option (List UInt8)) (ps : List PB) : Prop where
  up : ps.Pairwise fun a b => a.1 < b.1
  a : ∀ id, glook ps id = A id
theorem glook_lt : ∀ {ps : List PB} {id : Nat}, (∀ p ∈ ps, id < p.1) → glook ps id = none
  | [], _, _ => rfl
  | p :: r, id, h => by
    have h1 := h p List.mem_cons_self
    rw [glook, if_neg (by omega)]
    exact glook_lt fun q hq => h q (List.mem_cons_of_mem _ hq)
theorem hasP_cons {p : PB} {r : List PB} {id : Nat} (h : p.1 < id) : hasP (p :: r) id = hasP r id := by
  unfold hasP
  rw [cntP, if_pos h]
  simp
theorem hasP_look : ∀ {ps : List PB} (id : Nat), ps.Pairwise (fun a b => a.1 < b.1) → hasP ps id = (glook ps id).isSome
  | [], id, _ => by simp [hasP, glook]
  | p :: r, id, h => by
    rw [List.pairwise_cons] at h
    by_cases h1 : p.1 < id
    · rw [hasP_cons h1, hasP_look id h.2, glook, if_neg (by omega)]
    · by_cases h2 : id = p.1
      · simp [hasP, cntP, h1, glook, h2]
      · rw [glook, if_neg h2, glook_lt (fun q hq => by have := h.1 q hq; omega)]
        simp [hasP, cntP, h1]; omega
theorem ins_cons {p : PB} {r : List PB} {id : Nat} {b : List UInt8} (h : p.1 < id) : insP (p :: r) id b = p :: insP r id b := by
  unfold insP
  rw [hasP_cons h, cntP, if_pos h]
  split <;> simp
theorem del_cons {p : PB} {r : List PB} {id : Nat} (h : p.1 < id) : delP (p :: r) id = p :: delP r id := by
  unfold delP
  rw [cntP, if_pos h]
  simp
theorem ins_look : ∀ {ps : List PB} (id : Nat) (b : List UInt8) (h : ps.Pairwise (fun a b => a.1 < b.1)), (insP ps id b).Pairwise (fun a b => a.1 < b.1) ∧ (∀ x ∈ insP ps id b, x.1 = id ∨ x ∈ ps) ∧ ∀ k, glook (insP ps id b) k = if k = id then some b else glook ps k
  | [], id, b, _ => by simp [insP, hasP, cntP, glook]
  | p :: r, id, b, h => by
    rw [List.pairwise_cons] at h
    by_cases h1 : p.1 < id
    · obtain ⟨i1, i2, i3⟩ := ins_look id b h.2
      rw [ins_cons h1]
      refine ⟨List.pairwise_cons.2 ⟨fun x hx => ?_, i1⟩, fun x hx => ?_, fun k => ?_⟩
      · rcases i2 x hx with e | e
        · omega
        · exact h.1 x e
      · rcases List.mem_cons.1 hx with e | e
        · exact .inr (by rw [e]; exact List.mem_cons_self)
        · exact (i2 x e).imp (fun h => h) (List.mem_cons_of_mem _)
      · rw [glook, i3, glook]
        by_cases e : k = p.1
        · rw [if_pos e, if_pos e, if_neg (by omega)]
        · rw [if_neg e, if_neg e]
    · by_cases h2 : id = p.1
      · have e : insP (p :: r) id b = (id, b) :: r := by simp [insP, hasP, cntP, h1, h2]
        rw [e]
        refine ⟨List.pairwise_cons.2 ⟨fun x hx => by rw [h2]; exact h.1 x hx, h.2⟩, fun x hx => ?_, fun k => ?_⟩
        · rcases List.mem_cons.1 hx with e | e
          · exact .inl (by rw [e])
          · exact .inr (List.mem_cons_of_mem _ e)
        · rw [glook, glook]
          by_cases e : k = id
          · rw [if_pos e, if_pos e]
          · rw [if_neg e, if_neg e, if_neg (by omega)]
      · have e : insP (p :: r) id b = (id, b) :: p :: r := by
          have : hasP (p :: r) id = false := by simp [hasP, cntP, h1]; omega
          simp [insP, this, cntP, h1]
        rw [e]
        refine ⟨List.pairwise_cons.2 ⟨fun x hx => ?_, List.pairwise_cons.2 h⟩, fun x hx => ?_, fun k => ?_⟩
        · rcases List.mem_cons.1 hx with e | e
          · rw [e]; show id < p.1; omega
          · have := h.1 x e; show id < x.1; omega
        · rcases List.mem_cons.1 hx with e | e
          · exact .inl (by rw [e])
          · exact .inr e
        · rw [glook]
theorem del_look : ∀ {ps : List PB} (id : Nat) (h : ps.Pairwise (fun a b => a.1 < b.1)), hasP ps id = true → (delP ps id).Pairwise (fun a b => a.1 < b.1) ∧ ∀ k, glook (delP ps id) k = if k = id then none else glook ps k
  | [], id, _, hh => by simp [hasP] at hh
  | p :: r, id, h, hh => by
    rw [List.pairwise_cons] at h
    by_cases h1 : p.1 < id
    · rw [hasP_cons h1] at hh
      obtain ⟨i1, i3⟩ := del_look id h.2 hh
      rw [del_cons h1]
      refine ⟨List.pairwise_cons.2 ⟨fun x hx => h.1 x ?_, i1⟩, fun k => ?_⟩
      · unfold delP at hx
        rcases List.mem_append.1 hx with e | e
        · exact List.mem_of_mem_take e
        · exact List.mem_of_mem_drop e
      · rw [glook, i3, glook]
        by_cases e : k = p.1
        · rw [if_pos e, if_pos e, if_neg (by omega)]
        · rw [if_neg e, if_neg e]
    · have h2 : id = p.1 := by
        simp [hasP, cntP, h1] at hh; omega
      have e : delP (p :: r) id = r := by simp [delP, cntP, h1]
      rw [e]
      refine ⟨h.2, fun k => ?_⟩
      rw [glook]
      by_cases e : k = id
      · rw [if_pos e, e]; exact glook_lt fun q hq => by rw [h2]; exact h.1 q hq
      · rw [if_neg e, if_neg (by omega)]
theorem rf_put {A : Nat → Option (List UInt8)} {ps : List PB} (h : Rf A ps) (id : Nat) (b : List UInt8) : Rf (updO A id (some b)) (insP ps id b) := by
  obtain ⟨i1, _, i3⟩ := ins_look id b h.up
  exact ⟨i1, fun k => by rw [i3, h.a]; rfl⟩
theorem rf_del {A : Nat → Option (List UInt8)} {ps : List PB} (h : Rf A ps) {id : Nat} (hh : hasP ps id = true) : Rf (updO A id none) (delP ps id) := by
  obtain ⟨i1, i3⟩ := del_look id h.up hh
  exact ⟨i1, fun k => by rw [i3, h.a]; rfl⟩
end Go.Proofs.Ythfgocinlbogeaa
set_option linter.unusedVariables false
set_option linter.unusedSimpArgs false
namespace Go.Ts
open Go.Lib
section
variable {P : Program} {G : Nat → Option TI} {w : World} {μ : Gh} {σ : St} {N : Nat} {a : Env} {K : Env → St → Prop} {d : Tmp} {ty : TypeId} {pos : String} {af : Array Edge} {gd : Option (Nat × Bool)}
theorem ext_step {w' : World} (hi : Inv w μ σ) (hos : w'.os = w.os) (ht : w'.tape = w.tape) (ho : w'.output = w.output) (hsz : w.heap.size ≤ w'.heap.size) (hh : ∀ b, b < w.heap.size → w'.heap[b]? = w.heap[b]?) : Ev w μ σ w' μ σ ∧ Inv w' μ σ := by
  have lt : ∀ {b : Nat} {o : Obj}, w.heap[b]? = some o → b < w.heap.size := fun h => (Array.getElem?_eq_some_iff.1 h).1
  have ev : Ev w μ σ w' μ σ := ⟨⟨hos, ht, ho, hsz, fun k hk => by omega⟩, fun _ _ h => h, fun _ _ h => h, rfl, fun b n ⟨c, e, f, h1, h2⟩ => ⟨c, e, f, by rw [hh b (lt h1)]; exact h1, h2⟩, fun b hb hl => ⟨hl, hh b hb⟩, fun b o h => ⟨⟨Nat.lt_of_lt_of_le h.lt hsz, h.off, h.obj, h.room⟩, cell_of_heap (hh b h.lt) o⟩⟩
  refine ⟨ev, ⟨fun i ts hx => ?_, fun i es hx => ?_, hi.inj, fun k hk => ?_, hi.rinj, hi.fin, fun b o h => Nat.lt_of_lt_of_le (hi.offlt b o h) hsz, hi.offobj⟩⟩
  · obtain ⟨b, p, c, e, q1, q2, q3, q4⟩ := hi.obj i ts hx
    exact ⟨b, p, c, e, q1, by rw [hh b (lt q2)]; exact q2, q3, fun j t v q5 q6 => (q4 j t v q5 q6).ev ev⟩
  · obtain ⟨b, c, e, q1, q2, q3, q4⟩ := hi.map i es hx
    exact ⟨b, c, e, q1, by rw [hh b (lt q2)]; exact q2, q3, fun j k u e' q5 q6 => let ⟨q7, q8⟩ := q4 j k u e' q5 q6; ⟨q7.ev ev, q8.ev ev⟩⟩
  · obtain ⟨b, f, t, h1, h2, h3⟩ := hi.room k hk
    refine ⟨b, f, t, h1, h2, fun hlt => ?_⟩
    obtain ⟨⟨c, e, h4, h5⟩, h6, h7⟩ := h3 hlt
    exact ⟨⟨c, e, by rw [hh b (lt h4)]; exact h4, h5⟩, h6, h7⟩
theorem imm_new {w' : World} (hi : Inv w μ σ) {b o : Nat} (hb : w.heap.size ≤ b) (hlt : b < w'.heap.size) : Imm w' μ σ b o := by
  refine ⟨hlt, fun h => ?_, fun i ob p h1 h2 => ?_, fun k f t h1 h2 h3 => ?_⟩
  · have := hi.offlt b o h; omega
  · obtain ⟨b', p', h3, h4⟩ := hi.lt h1
    rw [h2] at h3; injection h3 with h3; injection h3 with h3 h5; omega
  · obtain ⟨b', f', t', r1, r2, r3⟩ := hi.room k h1
    rw [h2] at r1; injection r1 with r1; injection r1 with r1 r4; injection r4 with r4 r5
    subst r1; subst r4; subst r5
    obtain ⟨⟨c, e, h4, h5⟩, _⟩ := r3 (by omega)
    have := (Array.getElem?_eq_some_iff.1 h4).1; omega
theorem r_s2b {src dst e : TypeId} {x : Operand} {s : List UInt8} {ts td te : TI} (hG : Fits P G) (hx : Ad a x = some (.str s)) (hs : G src = some ts) (hsd : ts.d = .str) (hd0 : G dst = some td) (hdd : td.d = .slice e) (he : G e = some te) (hed : te.d = .int .u8) (hd : Ai N (some d) = true)
    (kk : K (put a (some d) (.sl 1 .no (s.map bT))) σ) : AOp P N ⟨some d, .convert src dst x, ty, pos, af, gd⟩ a σ K := by
  generalize some d = dd at *
  intro av w μ hi hr next Qc hn
  have rx := Al hr hx
  obtain ⟨_, d1, _, u1, t1, _⟩ := hG src ts hs
  obtain ⟨_, d2, _, u2, t2, _⟩ := hG dst td hd0
  obtain ⟨_, d3, _, u3, t3, _⟩ := hG e te he
  rw [hdd] at t2; obtain rfl := A0 t2
  rw [hed] at t3; obtain rfl := td_int t3
  generalize hv : av.eval x = vx at rx
  cases rx with
  | str ba =>
    have hrun0 := run_convert_string_bytes (P := P) w src dst e ba u1 u2 u3
    have hrun : (execOp av.eval ⟨dd, .convert src dst x, ty, pos, af, gd⟩).run P w = .ok (.value (.slice (some ⟨w.heap.size, 0, none⟩) ba.size (grownCap w ba.size 0 e))) (bytesWorld w e ba) := by
      simp [execOp, hv, hrun0]
    obtain ⟨ev, inv⟩ := ext_step (w' := bytesWorld w e ba) hi rfl rfl rfl (by rw [bytesWorld_size]; omega) (fun b hb => bytesWorld_at_old w e ba b hb)
    unfold Oper.wp
    rw [hrun]
    refine hn _ _ _ _ _ ev inv ((hr.ev ev).put hd ?_) kk
    have hsc : ∀ q : List UInt8, (q.map bT).all T.scalar = true := fun q => by simp [List.all_map, bT, T.scalar]
    have hfl : flat (ba.data.toList.map bT) = ba.data.toList.map bT := (flat_scalar (xs := ba.data.toList.map bT) (hsc _)).1
    refine sl_mk (p := 0) (by rw [List.length_map, Array.length_toList]; rfl) ?_ trivial (flat_scalar (xs := ba.data.toList.map bT) (hsc _)).2 fun k c hk => ?_
    · exact grownCap_ge w ba.size 0 e
    · rw [hfl, List.getElem?_map] at hk
      cases hq : ba.data.toList[k]? with
      | none => rw [hq] at hk; cases hk
      | some y =>
        rw [hq] at hk; injection hk with hk; subst hk
        have hlt : k < ba.size := by have := (List.getElem?_eq_some_iff.1 hq).1; rw [Array.length_toList] at this; exact this
        rw [Nat.zero_add]
        refine ⟨imm_new hi (Nat.le_refl _) (by rw [bytesWorld_size]; omega), _, bytesWorld_cell w e ba k hlt, ?_⟩
        simp only [List.getD, hq, Option.getD_some]
        exact .int _ _
end
end Go.Ts
set_option maxHeartbeats 4000000
namespace Go.Ts
def strT (b : List UInt8) : T := .str b
instance : Enc strT 1 := ⟨fun x c h => by simp [strT, T.cells] at h; subst h; rfl, fun x => rfl⟩
end Go.Ts
namespace Go.Proofs.Ythfgocinlbogeaa
open Go.Ts
set_option linter.unusedSimpArgs false
set_option linter.unusedVariables false
attribute [local irreducible] Go.Ts.AW Go.Ts.AOps Go.Ts.AL Go.Ts.AOp Go.Ts.ACalls Go.Ts.DL Go.Ts.DQ Go.Ts.DQ0 Go.Ts.EL
def idsP (ps : List PB) : List Nat := ps.map (·.1)
def rsP (ps : List PB) : List (List UInt8) := ps.map (·.2)
def rcT : List (List UInt8) → Nat → T
  | [], _ => .sl 1 .no []
  | x :: l, r => .aref 1 r 0 (x :: l).length none
def rcR : List (List UInt8) → Nat → List (Nat × Ob)
  | [], _ => []
  | x :: l, r => [(r, .cells ((x :: l).map strT))]
def rfL (v : UInt8) (ps : List PB) (q r : Nat) : List (Nat × Ob) := (q, .cells [bT v, .sl 1 .no ((idsP ps).map mT), rcT (rsP ps) r]) :: rcR (rsP ps) r
theorem rcT_ne : ∀ {l : List (List UInt8)} {i : Nat}, l ≠ [] → rcT l i = .aref 1 i 0 l.length none
  | [], _, h => absurd rfl h
  | _ :: _, _, _ => rfl
theorem rcR_ne : ∀ {l : List (List UInt8)} {i : Nat}, l ≠ [] → rcR l i = [(i, .cells (l.map strT))]
  | [], _, h => absurd rfl h
  | _ :: _, _, _ => rfl
theorem cnt_step : ∀ (ps : List PB) (id k : Nat), k ≤ cntP ps id → k < ps.length → ((idsP ps).getD k default < id ↔ k < cntP ps id)
  | [], id, k, _, h => by simp at h
  | p :: r, id, k, h1, h2 => by
    unfold cntP at h1 ⊢
    by_cases hp : p.1 < id
    · rw [if_pos hp] at h1 ⊢
      cases k with
      | zero => simp [idsP, hp]
      | succ k =>
        have := cnt_step r id k (by omega) (by simpa using h2)
        simp only [idsP, List.map_cons, List.getD_cons_succ] at this ⊢
        rw [show (List.map (·.1) r).getD k default = (idsP r).getD k default from rfl] at *
        rw [this]; omega
    · rw [if_neg hp] at h1 ⊢
      obtain rfl : k = 0 := by omega
      simp [idsP, hp]
theorem ids_get (ps : List PB) {k : Nat} (h : k < ps.length) : (idsP ps).getD k default = (ps.getD k (0, [])).1 := by simp [idsP, List.getD, h]
structure AtX (ps : List PB) (id : Nat) where
  k : Nat
  hk : k ≤ cntP ps id
theorem ids_len (ps : List PB) : (idsP ps).length = ps.length := by simp [idsP]
set_option maxHeartbeats 9000000 in
theorem d_at (v : UInt8) (ps : List PB) (hl : ps.length ≤ 1000000) {id : Nat} (hid : id < 18446744073709551616) (q r : Nat) :
    OnL Try.prog 64 [.ptr q 0, .int .u64 (id : Int)] (rfL v ps q r) (fun u L => u = .tup [.int .i64 (cntP ps id : Int), .bool (hasP ps id)] ∧ L = rfL v ps q r) := by
  have hil := ids_len ps
  have hcl := cntP_le ps id
  intro off
  refine Af (N := 46) (rs := [.tmp 4, .tmp 5]) hG Try.func64 rfl rfl rfl rfl rfl ?_
  repeat' (first | (show AL _ _ _ _ _ _ _ _; first | refine so2 ?_) | (show DL _ _ _ _ _ _ _; first | refine do2 ?_) | (show AW _ _ _ _ _ _; first | (show AW _ _ (.region _ _ _) _ _ _; refine sc0 ?_; intro O1) | (refine sc1 ?_; try intro Q1)) | (show (_ → _) ∧ _; refine ⟨fun h => ?_, fun h => ?_⟩) | fail)
  refine A5 (X := AtX ps id) (fun x => [(0, .ptr q 0), (1, .int .u64 (id : Int)), (6, .int .i64 (x.k : Int))]) (fun x => ⟨rfL v ps q r, [], off, none⟩) (fun x => ps.length - x.k) ⟨0, Nat.zero_le _⟩ (.cons rfl (.cons rfl (.consW rfl (.int rfl) (.nil _)))) (.refl _) ?_
  rintro ⟨k, hk⟩
  dsimp only
  by_cases hkl : k < ps.length
  · have hst := cnt_step ps id k hk hkl
    by_cases hlt : (idsP ps).getD k default < id
    · have := hst.1 hlt
      repeat' (first | (show AL _ _ _ _ _ _ _ _; first | refine so2 ?_) | (show DL _ _ _ _ _ _ _; first | refine do2 ?_) | (show AW _ _ _ _ _ _; first | (show AW _ _ (.region _ _ _) _ _ _; refine sc0 ?_; intro O1) | (refine sc1 ?_; try intro Q1)) | (show (_ → _) ∧ _; refine ⟨fun h => ?_, fun h => ?_⟩) | fail)
      exact ⟨⟨k + 1, by omega⟩, by dsimp only; omega, .cons rfl (.cons rfl (.consW rfl (.int (by simp)) (.nil _))), .refl _⟩
    · have hkc : k = cntP ps id := by
        rcases Nat.lt_or_ge k (cntP ps id) with h | h
        · exact absurd (hst.2 h) hlt
        · omega
      have hg := ids_get ps hkl
      repeat' (first | (show AL _ _ _ _ _ _ _ _; first | refine so2 ?_) | (show DL _ _ _ _ _ _ _; first | refine do2 ?_) | (show AW _ _ _ _ _ _; first | (show AW _ _ (.region _ _ _) _ _ _; refine sc0 ?_; intro O1) | (refine sc1 ?_; try intro Q1)) | (show (_ → _) ∧ _; refine ⟨fun h => ?_, fun h => ?_⟩) | fail)
      · have hh : hasP ps id = true := by
          unfold hasP
          rw [← hkc, decide_eq_true hkl, ← hg, decide_eq_true (by omega)]; rfl
        rw [hh, ← hkc]
        exact Az (Ae rfl (Ae rfl Ag)) (.refl _) (.refl _) (.refl _) rfl ⟨rfl, rfl⟩
      · have hh : hasP ps id = false := by
          unfold hasP
          rw [← hkc, ← hg, decide_eq_false (show ¬ (idsP ps).getD k default = id from fun e => h (by rw [e]))]; simp
        rw [hh, ← hkc]
        exact Az (Ae rfl (Ae rfl Ag)) (.refl _) (.refl _) (.refl _) rfl ⟨rfl, rfl⟩
  · have hkc : k = cntP ps id := by omega
    have hh : hasP ps id = false := by
      unfold hasP
      rw [← hkc, decide_eq_false hkl]; rfl
    repeat' (first | (show AL _ _ _ _ _ _ _ _; first | refine so2 ?_) | (show DL _ _ _ _ _ _ _; first | refine do2 ?_) | (show AW _ _ _ _ _ _; first | (show AW _ _ (.region _ _ _) _ _ _; refine sc0 ?_; intro O1) | (refine sc1 ?_; try intro Q1)) | (show (_ → _) ∧ _; refine ⟨fun h => ?_, fun h => ?_⟩) | fail)
    rw [hh, ← hkc]
    exact Az (Ae rfl (Ae rfl Ag)) (.refl _) (.refl _) (.refl _) rfl ⟨rfl, rfl⟩
def sumP (ps : List PB) : Nat := (ps.map fun p => p.2.length).sum
structure SzP (ps : List PB) where
  i : Nat
  hi : i ≤ ps.length
theorem sumP_succ {ps : List PB} {i : Nat} (h : i < ps.length) : sumP (ps.take (i + 1)) = sumP (ps.take i) + (ps.getD i (0, [])).2.length := by
  unfold sumP; rw [List.take_add_one, List.map_append, List.sum_append]; simp [h, List.getD]
theorem sumP_le : ∀ (ps : List PB), (∀ p ∈ ps, p.2.length ≤ 60000) → sumP ps ≤ ps.length * 60000
  | [], _ => by simp [sumP]
  | p :: r, h => by
    have h1 := h p List.mem_cons_self
    have h2 := sumP_le r fun q hq => h q (List.mem_cons_of_mem _ hq)
    simp only [sumP, List.map_cons, List.sum_cons, List.length_cons] at *
    omega
theorem rs_get (ps : List PB) {k : Nat} (h : k < ps.length) : (rsP ps).getD k default = (ps.getD k (0, [])).2 := by simp [rsP, List.getD, h]
theorem rs_len (ps : List PB) : (rsP ps).length = ps.length := by simp [rsP]
theorem rs_ne {ps : List PB} (h : 0 < ps.length) : rsP ps ≠ [] := List.ne_nil_of_length_pos (by rw [rs_len]; exact h)
set_option maxHeartbeats 9000000 in
theorem d_Size (v : UInt8) (ps : List PB) (hl : ps.length ≤ 1000) (hb : ∀ p ∈ ps, p.2.length ≤ 60000) (q r : Nat) :
    OnL Try.prog 67 [.ptr q 0] (rfL v ps q r) (fun u L => u = .int .i64 (sumP ps : Int) ∧ L = rfL v ps q r) := by
  by_cases hne : ps = []
  · subst hne
    have e0 : rfL v [] q r = [(q, .cells [bT v, .sl 1 .no [], .sl 1 .no []])] := rfl
    rw [e0]
    have n0 : ([] : List T).length = 0 := rfl
    intro off
    refine Af (N := 25) (rs := [.tmp 2]) hG Try.func67 rfl rfl rfl rfl rfl ?_
    repeat' (first | (show AL _ _ _ _ _ _ _ _; first | refine so2 ?_) | (show AW _ _ _ _ _ _; first | (show AW _ _ (.region _ _ _) _ _ _; refine sc0 ?_; intro O1) | (refine sc1 ?_; try intro Q1)) | (show (_ → _) ∧ _; refine ⟨fun h => ?_, fun h => ?_⟩) | fail)
    refine A5 (X := Unit) (fun _ => [(0, .ptr q 0), (3, .int .i64 0), (4, .int .i64 0)]) (fun _ => ⟨[(q, .cells [bT v, .sl 1 .no [], .sl 1 .no []])], [], off, none⟩) (fun _ => 0) () (.cons rfl (.cons rfl (.cons rfl (.nil _)))) (.refl _) ?_
    rintro ⟨⟩
    repeat' (first | (show AL _ _ _ _ _ _ _ _; first | refine so2 ?_) | (show AW _ _ _ _ _ _; first | (show AW _ _ (.region _ _ _) _ _ _; refine sc0 ?_; intro O1) | (refine sc1 ?_; try intro Q1)) | (show (_ → _) ∧ _; refine ⟨fun h => ?_, fun h => ?_⟩) | fail)
    exact Az (Ae rfl Ag) (.refl _) (.refl _) (.refl _) rfl ⟨rfl, rfl⟩
  have hpos : 0 < ps.length := List.length_pos_iff.2 hne
  have hrn := rs_ne hpos
  have hrl := rs_len ps
  unfold rfL
  rw [rcT_ne hrn, rcR_ne hrn, hrl]
  intro off
  refine Af (N := 25) (rs := [.tmp 2]) hG Try.func67 rfl rfl rfl rfl rfl ?_
  repeat' (first | (show AL _ _ _ _ _ _ _ _; first | refine so2 ?_) | (show AW _ _ _ _ _ _; first | (show AW _ _ (.region _ _ _) _ _ _; refine sc0 ?_; intro O1) | (refine sc1 ?_; try intro Q1)) | (show (_ → _) ∧ _; refine ⟨fun h => ?_, fun h => ?_⟩) | fail)
  refine A5 (X := SzP ps) (fun x => [(0, .ptr q 0), (3, .int .i64 (sumP (ps.take x.i) : Int)), (4, .int .i64 (x.i : Int))]) (fun x => ⟨[(q, .cells [bT v, .sl 1 .no ((idsP ps).map mT), .aref 1 r 0 ps.length none]), (r, .cells ((rsP ps).map strT))], [], off, none⟩) (fun x => ps.length - x.i) ⟨0, Nat.zero_le _⟩ (.cons rfl (.consW rfl (.int (by simp [sumP])) (.consW rfl (.int rfl) (.nil _)))) (.refl _) ?_
  rintro ⟨k, hk⟩
  dsimp only
  have hsl := sumP_le (ps.take k) fun p hp => hb p (List.mem_of_mem_take hp)
  rw [List.length_take] at hsl
  by_cases hkl : k < ps.length
  · have hs1 := sumP_succ hkl
    have hg := rs_get ps hkl
    have hbk : ((rsP ps).getD k default).length ≤ 60000 := by rw [hg]; exact hb _ (by simp [List.getD, hkl])
    repeat' (first | (show AL _ _ _ _ _ _ _ _; first | refine so2 ?_) | (show AW _ _ _ _ _ _; first | (show AW _ _ (.region _ _ _) _ _ _; refine sc0 ?_; intro O1) | (refine sc1 ?_; try intro Q1)) | (show (_ → _) ∧ _; refine ⟨fun h => ?_, fun h => ?_⟩) | fail)
    refine Ac rfl (r_ldB 1 (f := strT) (l := rsP ps) hG rfl rfl rfl rfl (by omega) rfl ?_)
    repeat' (first | (show AL _ _ _ _ _ _ _ _; first | refine so2 ?_) | (show AW _ _ _ _ _ _; first | (show AW _ _ (.region _ _ _) _ _ _; refine sc0 ?_; intro O1) | (refine sc1 ?_; try intro Q1)) | (show (_ → _) ∧ _; refine ⟨fun h => ?_, fun h => ?_⟩) | fail)
    exact ⟨⟨k + 1, by omega⟩, by dsimp only; omega, .cons rfl (.consW rfl (.int (by rw [hs1, ← hg] <;> simp)) (.consW rfl (.int (by simp)) (.nil _))), .refl _⟩
  · rw [List.take_of_length_le (by omega)]
    repeat' (first | (show AL _ _ _ _ _ _ _ _; first | refine so2 ?_) | (show AW _ _ _ _ _ _; first | (show AW _ _ (.region _ _ _) _ _ _; refine sc0 ?_; intro O1) | (refine sc1 ?_; try intro Q1)) | (show (_ → _) ∧ _; refine ⟨fun h => ?_, fun h => ?_⟩) | fail)
    exact Az (Ae rfl Ag) (.refl _) (.refl _) (.refl _) rfl ⟨rfl, rfl⟩
def stepP (out : List UInt8) (p : PB) : List UInt8 := putBs (out ++ putI (p.1 : Int) 8) p.2
def bytesP (ps : List PB) : List UInt8 := ps.foldl stepP []
theorem bytesP_len : ∀ (ps : List PB) (out : List UInt8), (∀ p ∈ ps, p.2.length ≤ 60000) → (ps.foldl stepP out).length ≤ out.length + ps.length * 70000
  | [], out, _ => by simp
  | p :: r, out, h => by
    have h1 := bytesP_len r (stepP out p) fun q hq => h q (List.mem_cons_of_mem _ hq)
    have h2 : (stepP out p).length ≤ out.length + 70000 := by
      have h3 := h p List.mem_cons_self
      have h4 := putI_le (p.1 : Int) 8
      have h5 := putI_le (p.2.length : Int) 2
      unfold stepP putBs
      simp only [List.length_append]; omega
    rw [List.foldl_cons, List.length_cons]; omega
set_option maxHeartbeats 9000000 in
theorem d_Bytes (v : UInt8) (ps : List PB) (hl : ps.length ≤ 1000) (hb : ∀ p ∈ ps, p.2.length ≤ 60000) (hid : ∀ p ∈ ps, p.1 < 18446744073709551616) (q r : Nat) :
    OnL Try.prog 68 [.ptr q 0] (rfL v ps q r) (fun u L => u = sT (bytesP ps) ∧ L = rfL v ps q r) := by
  by_cases hne : ps = []
  · subst hne
    have e0 : rfL v [] q r = [(q, .cells [bT v, .sl 1 .no [], .sl 1 .no []])] := rfl
    rw [e0]
    have n0 : ([] : List T).length = 0 := rfl
    intro off
    refine Af (N := 33) (rs := [.tmp 2]) hG Try.func68 rfl rfl rfl rfl rfl ?_
    repeat' (first | (show AL _ _ _ _ _ _ _ _; first | refine so2 ?_) | (show DL _ _ _ _ _ _ _; first | refine do2 ?_) | (show AW _ _ _ _ _ _; first | (show AW _ _ (.region _ _ _) _ _ _; refine sc0 ?_; intro O1) | (refine sc1 ?_; try intro Q1)) | (show (_ → _) ∧ _; refine ⟨fun h => ?_, fun h => ?_⟩) | fail)
    refine A5 (X := Unit) (fun _ => [(0, .ptr q 0), (3, .sl 1 .no []), (4, .int .i64 0)]) (fun _ => ⟨[(q, .cells [bT v, .sl 1 .no [], .sl 1 .no []])], [], off, none⟩) (fun _ => 0) () (.cons rfl (.consW rfl (.nil 1) (.cons rfl (.nil _)))) (.refl _) ?_
    rintro ⟨⟩
    repeat' (first | (show AL _ _ _ _ _ _ _ _; first | refine so2 ?_) | (show DL _ _ _ _ _ _ _; first | refine do2 ?_) | (show AW _ _ _ _ _ _; first | (show AW _ _ (.region _ _ _) _ _ _; refine sc0 ?_; intro O1) | (refine sc1 ?_; try intro Q1)) | (show (_ → _) ∧ _; refine ⟨fun h => ?_, fun h => ?_⟩) | fail)
    exact Az (Ae rfl Ag) (.refl _) (.refl _) (.refl _) rfl ⟨rfl, rfl⟩
  have hpos : 0 < ps.length := List.length_pos_iff.2 hne
  have hrn := rs_ne hpos
  have hrl := rs_len ps
  have hil := ids_len ps
  unfold rfL
  rw [rcT_ne hrn, rcR_ne hrn, hrl]
  intro off
  refine Af (N := 33) (rs := [.tmp 2]) hG Try.func68 rfl rfl rfl rfl rfl ?_
  repeat' (first | (show AL _ _ _ _ _ _ _ _; first | refine so2 ?_) | (show DL _ _ _ _ _ _ _; first | refine do2 ?_) | (show AW _ _ _ _ _ _; first | (show AW _ _ (.region _ _ _) _ _ _; refine sc0 ?_; intro O1) | (refine sc1 ?_; try intro Q1)) | (show (_ → _) ∧ _; refine ⟨fun h => ?_, fun h => ?_⟩) | fail)
  refine A5 (X := SzP ps) (fun x => [(0, .ptr q 0), (3, .sl 1 .no ((bytesP (ps.take x.i)).map bT)), (4, .int .i64 (x.i : Int))]) (fun x => ⟨[(q, .cells [bT v, .sl 1 .no ((idsP ps).map mT), .aref 1 r 0 ps.length none]), (r, .cells ((rsP ps).map strT))], [], off, none⟩) (fun x => ps.length - x.i) ⟨0, Nat.zero_le _⟩ (.cons rfl (.consW rfl (.nil 1) (.consW rfl (.int rfl) (.nil _)))) (.refl _) ?_
  rintro ⟨k, hk⟩
  dsimp only
  have hsl := bytesP_len (ps.take k) [] fun p hp => hb p (List.mem_of_mem_take hp)
  rw [List.length_take] at hsl
  by_cases hkl : k < ps.length
  · have hg := rs_get ps hkl
    have hg2 := ids_get ps hkl
    have hbk : ((rsP ps).getD k default).length ≤ 60000 := by rw [hg]; exact hb _ (by simp [List.getD, hkl])
    have hidk : (idsP ps).getD k default < 18446744073709551616 := by rw [hg2]; exact hid _ (by simp [List.getD, hkl])
    have hst : bytesP (ps.take (k + 1)) = putBs (bytesP (ps.take k) ++ putI (((idsP ps).getD k default : Nat) : Int) 8) ((rsP ps).getD k default) := by
      unfold bytesP
      rw [List.take_add_one, List.foldl_append, hg, hg2]; simp [hkl, List.getD, stepP]
    change (bytesP (ps.take k)).length ≤ _ at hsl
    simp only [List.length_nil] at hsl
    generalize bytesP (ps.take k) = out at *
    have h1 := (ref_Put (x := .sl 1 .no (out.map bT)) (b := out) (v := (((idsP ps).getD k default : Nat) : Int)) (n := 8) (Bd _ _) (by omega) (by omega)).pure
    have h4 := putI_le (((idsP ps).getD k default : Nat) : Int) 8
    have h2 := (ref_PutBytes (x := .sl 1 .no ((out ++ putI (((idsP ps).getD k default : Nat) : Int) 8).map bT)) (y := sT ((rsP ps).getD k default)) (b := out ++ putI (((idsP ps).getD k default : Nat) : Int) 8) (s := (rsP ps).getD k default) (Bd _ _) (bytesT_s _) (by simp only [List.length_append]; omega) (by omega)).pure
    repeat' (first | (show AL _ _ _ _ _ _ _ _; first | refine so2 ?_ | refine sp Y Y Y Y Y Y (by apply h1 <;> exact sd) ?_ | refine sp Y Y Y Y Y Y (by apply h2 <;> exact sd) ?_) | (show DL _ _ _ _ _ _ _; first | refine do2 ?_ | refine dp Y Y Y Y Y Y Y (by apply h1 <;> exact sd) ?_ | refine dp Y Y Y Y Y Y Y (by apply h2 <;> exact sd) ?_) | (show AW _ _ _ _ _ _; first | (show AW _ _ (.region _ _ _) _ _ _; refine sc0 ?_; intro O1) | (refine sc1 ?_; try intro Q1)) | (show (_ → _) ∧ _; refine ⟨fun h => ?_, fun h => ?_⟩) | fail)
    refine' Ap rfl rfl (fun K kk => r_ldB 1 (f := strT) (l := rsP ps) hG rfl rfl rfl rfl (by omega) rfl kk) ?_
    repeat' (first | (show AL _ _ _ _ _ _ _ _; first | refine so2 ?_ | refine sp Y Y Y Y Y Y (by apply h1 <;> exact sd) ?_ | refine sp Y Y Y Y Y Y (by apply h2 <;> exact sd) ?_) | (show DL _ _ _ _ _ _ _; first | refine do2 ?_ | refine dp Y Y Y Y Y Y Y (by apply h1 <;> exact sd) ?_ | refine dp Y Y Y Y Y Y Y (by apply h2 <;> exact sd) ?_) | (show AW _ _ _ _ _ _; first | (show AW _ _ (.region _ _ _) _ _ _; refine sc0 ?_; intro O1) | (refine sc1 ?_; try intro Q1)) | (show (_ → _) ∧ _; refine ⟨fun h => ?_, fun h => ?_⟩) | fail)
    refine' Ap rfl rfl (fun K kk => r_s2b hG rfl rfl rfl rfl rfl rfl rfl rfl kk) ?_
    repeat' (first | (show AL _ _ _ _ _ _ _ _; first | refine so2 ?_ | refine sp Y Y Y Y Y Y (by apply h1 <;> exact sd) ?_ | refine sp Y Y Y Y Y Y (by apply h2 <;> exact sd) ?_) | (show DL _ _ _ _ _ _ _; first | refine do2 ?_ | refine dp Y Y Y Y Y Y Y (by apply h1 <;> exact sd) ?_ | refine dp Y Y Y Y Y Y Y (by apply h2 <;> exact sd) ?_) | (show AW _ _ _ _ _ _; first | (show AW _ _ (.region _ _ _) _ _ _; refine sc0 ?_; intro O1) | (refine sc1 ?_; try intro Q1)) | (show (_ → _) ∧ _; refine ⟨fun h => ?_, fun h => ?_⟩) | fail)
    exact ⟨⟨k + 1, by omega⟩, by dsimp only; omega, .cons rfl (.consW rfl (.eq (by rw [hst])) (.consW rfl (.int (by simp)) (.nil _))), .refl _⟩
  · rw [List.take_of_length_le (by omega)]
    repeat' (first | (show AL _ _ _ _ _ _ _ _; first | refine so2 ?_) | (show DL _ _ _ _ _ _ _; first | refine do2 ?_) | (show AW _ _ _ _ _ _; first | (show AW _ _ (.region _ _ _) _ _ _; refine sc0 ?_; intro O1) | (refine sc1 ?_; try intro Q1)) | (show (_ → _) ∧ _; refine ⟨fun h => ?_, fun h => ?_⟩) | fail)
    exact Az (Ae rfl Ag) (.refl _) (.refl _) (.refl _) rfl ⟨rfl, rfl⟩
end Go.Proofs.Ythfgocinlbogeaa
set_option maxHeartbeats 4000000
namespace Go.Ts
set_option linter.unusedSimpArgs false
set_option linter.unusedVariables false
theorem A4 (l : List (List UInt8)) : flat (l.map strT) = l.map strT := (flat_scalar (xs := l.map strT) (by simp [List.all_map, strT, T.scalar])).1
theorem chunks_1 : ∀ (n : Nat) (q : List T), q.length = n → chunks 1 n q = q := by
  intro n
  induction n with
  | zero => intro q hq; rw [List.length_eq_zero_iff.1 hq]; rfl
  | succ n ih =>
    intro q hq
    cases q with
    | nil => simp at hq
    | cons c q =>
      have e := ih q (by simpa using hq)
      simp only [chunks, List.headD_cons, List.drop_succ_cons, List.drop_zero, show Nat.beq 1 1 = true from rfl, cond_true]
      rw [e]
theorem src_row {l : List (List UInt8)} {r o n : Nat} (h : o + n ≤ l.length) : srcOf (fun j => if j = r then some (.cells (l.map strT)) else none) 1 (.aref 1 r o n none) = some (((l.drop o).take n).map strT) := by
  have hb : (Nat.ble (o + n * 1) (l.map strT).length && (((l.map strT).drop o).take (n * 1)).all T.scalar) = true := by
    rw [Bool.and_eq_true]
    refine ⟨Nat.ble_eq_true_of_le (by simp; omega), ?_⟩
    have hsc : ∀ q : List (List UInt8), (q.map strT).all T.scalar = true := fun q => by simp [List.all_map, strT, T.scalar]
    rw [← List.map_drop, ← List.map_take]; exact hsc _
  have hch : chunks 1 n (((l.map strT).drop o).take (n * 1)) = ((l.drop o).take n).map strT := by
    rw [Nat.mul_one, ← List.map_drop, ← List.map_take]
    exact chunks_1 n _ (by simp; omega)
  simp only [srcOf, show Nat.beq 1 1 = true from rfl, cond_true, if_true, hb, hch]
theorem obj_row {L : List (Nat × Ob)} {r : Nat} {ts : List T} (h : (r, Ob.cells ts) ∈ L) : ∀ i o, (fun j => if j = r then some (Ob.cells ts) else none) i = some o → (i, o) ∈ L := by
  intro i o hi
  dsimp only at hi
  split at hi
  · rename_i e; subst e; injection hi with hi; subst hi; exact h
  · cases hi
section
variable {P : Program} {G : Nat → Option TI} {N : Nat} {σ : St} {a : Env} {K : Env → St → Prop} {d : Tmp} {ty : TypeId} {pos : String} {af : Array Edge} {gd : Option (Nat × Bool)}
theorem r_slHi {t : TypeId} {x hi : Operand} {k : IntKind} {z e i n : Nat} {ti te : TI} (hG : Fits P G) (hx : Ad a x = some (.aref 1 i 0 n none)) (hn : Ad a hi = some (.int k ((z : Nat) : Int))) (ht : G t = some ti) (htd : ti.d = .slice e) (hte : G e = some te) (hsz : Nat.beq 1 te.size = true) (hd : Ai N (some d) = true)
    (h0 : 0 < z ∧ z ≤ n) (kk : K (put a (some d) (.aref 1 i 0 z none)) σ) : AOp P N ⟨some d, .slice t x none (some hi) none, ty, pos, af, gd⟩ a σ K := by
  have h1 : 1 = te.size := Nat.eq_of_beq_eq_true hsz
  refine op_q hG (t := .aref 1 i 0 z none) ?_ rfl hd kk
  obtain ⟨d1, s1, s2, s3⟩ := ti
  simp only at htd; subst htd
  have h2 : sizeT G e = some 1 := by simp [sizeT, hte, ← h1]
  simp only [Av, hx, ht, h2, Option.map_some, Option.map_none, hn, Option.getD_some, Option.getD_none]
  have h3 : (Nat.beq 1 1 && decide ((0 : Int) ≤ 0) && decide ((0 : Int) ≤ (z : Int)) && decide ((z : Int) ≤ ((n : Nat) : Int))) = true := by simp; omega
  have h4 : decide ((0 : Int) < (z : Int)) = true := decide_eq_true (by omega)
  rw [h3, cond_true, h4, cond_true]
  simp
theorem r_slHi0 {t : TypeId} {x hi : Operand} {k : IntKind} {z e i n : Nat} {ti te : TI} (hG : Fits P G) (hx : Ad a x = some (.aref 1 i 0 n none)) (hn : Ad a hi = some (.int k ((z : Nat) : Int))) (hz : z = 0) (ht : G t = some ti) (htd : ti.d = .slice e) (hte : G e = some te) (hsz : Nat.beq 1 te.size = true) (hd : Ai N (some d) = true)
    (kk : K (put a (some d) (.sl 1 .no [])) σ) : AOp P N ⟨some d, .slice t x none (some hi) none, ty, pos, af, gd⟩ a σ K := by
  have h1 : 1 = te.size := Nat.eq_of_beq_eq_true hsz
  subst hz
  refine op_q hG (t := .sl 1 .no []) ?_ rfl hd kk
  obtain ⟨d1, s1, s2, s3⟩ := ti
  simp only at htd; subst htd
  have h2 : sizeT G e = some 1 := by simp [sizeT, hte, ← h1]
  simp only [Av, hx, ht, h2, Option.map_some, Option.map_none, hn, Option.getD_some, Option.getD_none]
  have h3 : (Nat.beq 1 1 && decide ((0 : Int) ≤ 0) && decide ((0 : Int) ≤ ((0 : Nat) : Int)) && decide (((0 : Nat) : Int) ≤ ((n : Nat) : Int))) = true := by simp
  rw [h3, cond_true]; rfl
theorem r_slLo {t : TypeId} {x lo : Operand} {k : IntKind} {z e i n : Nat} {ti te : TI} (hG : Fits P G) (hx : Ad a x = some (.aref 1 i 0 n none)) (hn : Ad a lo = some (.int k ((z : Nat) : Int))) (ht : G t = some ti) (htd : ti.d = .slice e) (hte : G e = some te) (hsz : Nat.beq 1 te.size = true) (hd : Ai N (some d) = true)
    (h0 : z < n) (kk : K (put a (some d) (.aref 1 i z (n - z) none)) σ) : AOp P N ⟨some d, .slice t x (some lo) none none, ty, pos, af, gd⟩ a σ K := by
  have h1 : 1 = te.size := Nat.eq_of_beq_eq_true hsz
  refine op_q hG (t := .aref 1 i z (n - z) none) ?_ rfl hd kk
  obtain ⟨d1, s1, s2, s3⟩ := ti
  simp only at htd; subst htd
  have h2 : sizeT G e = some 1 := by simp [sizeT, hte, ← h1]
  simp only [Av, hx, ht, h2, Option.map_some, Option.map_none, hn, Option.getD_some, Option.getD_none]
  have h3 : (Nat.beq 1 1 && decide ((0 : Int) ≤ (z : Int)) && decide ((z : Int) ≤ ((n : Nat) : Int)) && decide (((n : Nat) : Int) ≤ ((n : Nat) : Int))) = true := by simp; omega
  have h4 : decide ((z : Int) < ((n : Nat) : Int)) = true := decide_eq_true (by omega)
  rw [h3, cond_true, h4, cond_true]
  simp
theorem r_slLoN {t : TypeId} {x lo : Operand} {k : IntKind} {z e i n : Nat} {ti te : TI} (hG : Fits P G) (hx : Ad a x = some (.aref 1 i 0 n none)) (hn : Ad a lo = some (.int k ((z : Nat) : Int))) (ht : G t = some ti) (htd : ti.d = .slice e) (hte : G e = some te) (hsz : Nat.beq 1 te.size = true) (hd : Ai N (some d) = true)
    (h0 : z = n) (kk : K (put a (some d) (.sl 1 .no [])) σ) : AOp P N ⟨some d, .slice t x (some lo) none none, ty, pos, af, gd⟩ a σ K := by
  have h1 : 1 = te.size := Nat.eq_of_beq_eq_true hsz
  subst h0
  refine op_q hG (t := .sl 1 .no []) ?_ rfl hd kk
  obtain ⟨d1, s1, s2, s3⟩ := ti
  simp only at htd; subst htd
  have h2 : sizeT G e = some 1 := by simp [sizeT, hte, ← h1]
  simp only [Av, hx, ht, h2, Option.map_some, Option.map_none, hn, Option.getD_some, Option.getD_none]
  have h3 : (Nat.beq 1 1 && decide ((0 : Int) ≤ (z : Int)) && decide ((z : Int) ≤ ((z : Nat) : Int)) && decide (((z : Nat) : Int) ≤ ((z : Nat) : Int))) = true := by simp
  have h4 : decide ((z : Int) < ((z : Nat) : Int)) = false := decide_eq_false (by omega)
  rw [h3, cond_true, h4, cond_false]
end
end Go.Ts
namespace Go.Proofs.Ythfgocinlbogeaa
open Go.Ts
set_option linter.unusedSimpArgs false
set_option linter.unusedVariables false
attribute [local irreducible] Go.Ts.AW Go.Ts.AOps Go.Ts.AL Go.Ts.AOp Go.Ts.ACalls Go.Ts.DL Go.Ts.DQ Go.Ts.DQ0 Go.Ts.EL
theorem d_Put_no (v : UInt8) (ps : List PB) {id : Nat} {b : List UInt8} (hb : b.length ≤ 4294967296) (h : putsB v b = false) (q r : Nat) :
    OnL Try.prog 36 [.ptr q 0, .int .u64 (id : Int), sT b] (rfL v ps q r) (fun u L => u = .int .i64 1 ∧ L = rfL v ps q r) := by
  unfold putsB at h
  intro off
  by_cases h0 : 0 < b.length
  · rw [decide_eq_true h0, Bool.true_and] at h
    have h1 : ¬ b.getD 0 default = v := of_decide_eq_false h
    have h2 : ¬ (((b.getD 0 default).toNat : Int) = ((v.toNat : Nat) : Int)) := fun e => h1 (UInt8.toNat_inj.1 (by omega))
    refine Af (N := 80) (rs := [.tmp 6]) hG Try.func36 rfl rfl rfl rfl rfl ?_
    repeat' (first | (show AL _ _ _ _ _ _ _ _; first | refine so2 ?_ | (refine sa ?_; intro k)) | (show DL _ _ _ _ _ _ _; first | refine do2 ?_) | (show AW _ _ _ _ _ _; first | (show AW _ _ (.region _ _ _) _ _ _; refine sc0 ?_; intro O1) | (refine sc1 ?_; try intro Q1)) | (show (_ → _) ∧ _; refine ⟨fun h => ?_, fun h => ?_⟩) | fail)
    exact Az (Ae rfl Ag) (.refl _) (.refl _) (.refl _) rfl ⟨rfl, rfl⟩
  · refine Af (N := 80) (rs := [.tmp 6]) hG Try.func36 rfl rfl rfl rfl rfl ?_
    repeat' (first | (show AL _ _ _ _ _ _ _ _; first | refine so2 ?_ | (refine sa ?_; intro k)) | (show DL _ _ _ _ _ _ _; first | refine do2 ?_) | (show AW _ _ _ _ _ _; first | (show AW _ _ (.region _ _ _) _ _ _; refine sc0 ?_; intro O1) | (refine sc1 ?_; try intro Q1)) | (show (_ → _) ∧ _; refine ⟨fun h => ?_, fun h => ?_⟩) | fail)
    exact Az (Ae rfl Ag) (.refl _) (.refl _) (.refl _) rfl ⟨rfl, rfl⟩
theorem ids_set {ps : List PB} {id : Nat} {b : List UInt8} (h : hasP ps id = true) : idsP (ps.set (cntP ps id) (id, b)) = idsP ps := by
  unfold hasP at h
  rw [Bool.and_eq_true, decide_eq_true_eq, decide_eq_true_eq] at h
  unfold idsP
  rw [List.map_set]
  apply List.ext_getElem?
  intro k
  rw [List.getElem?_set]
  by_cases e : cntP ps id = k
  · subst e
    have := h.2
    simp [List.getD, h.1] at this
    simp [h.1, this]
  · rw [if_neg e]
set_option maxHeartbeats 9000000 in
theorem d_Put_is (v : UInt8) (ps : List PB) (hl : ps.length ≤ 1000) {id : Nat} {b : List UInt8} (hid : id < 18446744073709551616) (hb : b.length ≤ 4294967296) (hp : putsB v b = true) (hh : hasP ps id = true) (q r : Nat) :
    OnL Try.prog 36 [.ptr q 0, .int .u64 (id : Int), sT b] (rfL v ps q r) (fun u L => u = .int .i64 0 ∧ L = rfL v (insP ps id b) q r) := by
  unfold putsB at hp
  rw [Bool.and_eq_true, decide_eq_true_eq, decide_eq_true_eq] at hp
  obtain ⟨h0, h1⟩ := hp
  have h2 : ((b.getD 0 default).toNat : Int) = ((v.toNat : Nat) : Int) := by rw [h1]
  have hA := d_at v ps (by omega) hid q r
  have hI := ids_set (b := b) hh
  have hlt : cntP ps id < ps.length := by unfold hasP at hh; rw [Bool.and_eq_true, decide_eq_true_eq] at hh; exact hh.1
  rw [hh] at hA
  rw [insP, if_pos hh]
  have hpos : 0 < ps.length := by omega
  have hrn := rs_ne hpos
  have hrl := rs_len ps
  have hrs : rsP (ps.set (cntP ps id) (id, b)) = (rsP ps).set (cntP ps id) b := by unfold rsP; rw [List.map_set]
  have hrn2 : (rsP ps).set (cntP ps id) b ≠ [] := by simpa using hrn
  unfold rfL at hA ⊢
  rw [hI, hrs, rcT_ne hrn2, rcR_ne hrn2, List.length_set]
  rw [rcT_ne hrn, rcR_ne hrn] at hA ⊢
  rw [hrl] at hA ⊢
  generalize cntP ps id = k at *
  intro off
  refine Af (N := 80) (rs := [.tmp 6]) hG Try.func36 rfl rfl rfl rfl rfl ?_
  repeat' (first | (show AL _ _ _ _ _ _ _ _; first | refine so2 ?_ | refine al_onS hA Y Y Y Y Y hs ?_ | (refine sa ?_; intro k)) | (show DL _ _ _ _ _ _ _; first | refine do2 ?_ | refine dl_on hA Y Y Y Y Y Y hs ?_) | (show AW _ _ _ _ _ _; (fail_if_success show AW _ _ (.region 5 _ _) _ _ _); first | (show AW _ _ (.region _ _ _) _ _ _; refine sc0 ?_; intro O1) | (refine sc1 ?_; try intro Q1)) | (show (_ → _) ∧ _; refine ⟨fun h => ?_, fun h => ?_⟩) | fail)
  · exact absurd h2 h
  refine Bh (m := 7) [] (Cont [(q, .cells [bT v, .sl 1 .no ((idsP ps).map mT), .aref 1 r 0 ps.length none]), (r, .cells ((rsP ps).map strT))]) mix Y (by repeat (first | exact Sp.zero _ | apply Sp.succ)) ?_; intro O1 F1 Z1 Q2; repeat' (first | (show DQ _ _ _ _ _ _ _ _ _; first | refine ep2 ?_) | (show EL _ _ _ _ _ _ _ _ _; first | refine eqc ?_ | (refine ec ?_; intro i)) | (show (_ → _) ∧ _; refine ⟨fun h => ?_, fun h => ?_⟩) | fail)
  repeat' (first | (show AL _ _ _ _ _ _ _ _; (fail_if_success show AL _ _ _ _ _ (⟨_, .store _ _ _, _, _, _, _⟩ :: _) _ _); first | refine so2 ?_ | (refine sa ?_; intro k)) | (show DL _ _ _ _ _ _ _; first | refine do2 ?_) | (show AW _ _ _ _ _ _; first | (show AW _ _ (.region _ _ _) _ _ _; refine sc0 ?_; intro O1) | (refine sc1 ?_; try intro Q1)) | (show (_ → _) ∧ _; refine ⟨fun h => ?_, fun h => ?_⟩) | fail)
  refine Ac rfl (r_stB 1 (f := strT) (l := rsP ps) b hG rfl rfl rfl (fun _ => rfl) (fun _ => rfl) rfl rfl (by omega) ?_)
  repeat' (first | (show AL _ _ _ _ _ _ _ _; first | refine so2 ?_ | (refine sa ?_; intro k)) | (show DL _ _ _ _ _ _ _; first | refine do2 ?_) | (show AW _ _ _ _ _ _; first | (show AW _ _ (.region _ _ _) _ _ _; refine sc0 ?_; intro O1) | (refine sc1 ?_; try intro Q1)) | (show (_ → _) ∧ _; refine ⟨fun h => ?_, fun h => ?_⟩) | fail)
  exact Az (Ae rfl Ag) (.refl _) (.refl _) (.refl _) rfl ⟨rfl, rfl⟩
theorem ins_ids {ps : List PB} {id : Nat} {b : List UInt8} (h : hasP ps id = false) : idsP (insP ps id b) = ((idsP ps).take (cntP ps id) ++ [id]) ++ (idsP ps).drop (cntP ps id) := by
  rw [insP, if_neg (by rw [h]; decide)]
  simp [idsP, List.map_take, List.map_drop]
theorem ins_rs {ps : List PB} {id : Nat} {b : List UInt8} (h : hasP ps id = false) : rsP (insP ps id b) = ((rsP ps).take (cntP ps id) ++ [b]) ++ (rsP ps).drop (cntP ps id) := by
  rw [insP, if_neg (by rw [h]; decide)]
  simp [rsP, List.map_take, List.map_drop]
set_option maxHeartbeats 9000000 in
theorem d_Put_new0 (v : UInt8) {id : Nat} {b : List UInt8} (hid : id < 18446744073709551616) (hb : b.length ≤ 4294967296) (hp : putsB v b = true) (q r : Nat) :
    OnL Try.prog 36 [.ptr q 0, .int .u64 (id : Int), sT b] (rfL v [] q r) (fun u L => ∃ r', u = .int .i64 0 ∧ L = rfL v [(id, b)] q r') := by
  unfold putsB at hp
  rw [Bool.and_eq_true, decide_eq_true_eq, decide_eq_true_eq] at hp
  obtain ⟨h0, h1⟩ := hp
  have h2 : ((b.getD 0 default).toNat : Int) = ((v.toNat : Nat) : Int) := by rw [h1]
  have hA := d_at v [] (by simp) hid q r
  have e0 : rfL v [] q r = [(q, .cells [bT v, .sl 1 .no [], .sl 1 .no []])] := rfl
  have e1 : ∀ r, rfL v [(id, b)] q r = [(q, .cells [bT v, .sl 1 .no [mT id], .aref 1 r 0 1 none]), (r, .cells [strT b])] := fun _ => rfl
  have e2 : cntP [] id = 0 := rfl
  have e3 : hasP [] id = false := by simp [hasP]
  rw [e0, e2, e3] at hA
  rw [e0]
  have n0 : ([] : List T).length = 0 := rfl
  intro off
  refine Af (N := 80) (rs := [.tmp 6]) hG Try.func36 rfl rfl rfl rfl rfl ?_
  repeat' (first | (show AL _ _ _ _ _ _ _ _; first | refine so2 ?_ | refine al_onS hA Y Y Y Y Y hs ?_ | (refine sa ?_; intro k)) | (show DL _ _ _ _ _ _ _; first | refine do2 ?_ | refine dl_on hA Y Y Y Y Y Y hs ?_) | (show AW _ _ _ _ _ _; (fail_if_success show AW _ _ (.region 7 _ _) _ _ _); first | (show AW _ _ (.region _ _ _) _ _ _; refine sc0 ?_; intro O1) | (refine sc1 ?_; try intro Q1)) | (show (_ → _) ∧ _; refine ⟨fun h => ?_, fun h => ?_⟩) | fail)
  · exact absurd h2 h
  refine Bh (m := 19) [8, 11, 18] (Cont [(q, .cells [bT v, .sl 1 .no [], .sl 1 .no []])]) mix Y (by repeat (first | exact Sp.zero _ | apply Sp.succ)) ?_; intro O1 F1 Z1 Q2; repeat' (first | (show DQ _ _ _ _ _ _ _ _ _; first | refine ep2 ?_) | (show EL _ _ _ _ _ _ _ _ _; first | refine eqc ?_ | (refine ec ?_; intro i)) | (show (_ → _) ∧ _; refine ⟨fun h => ?_, fun h => ?_⟩) | fail)
  refine A1 (Cont.of rfl hs) rfl rfl rfl (fun K ke => ?_)
  refine Bm (objs := fun _ => none) hG rfl rfl rfl rfl rfl ⟨_, rfl⟩ rfl rfl rfl (fun i o h => by cases h) rfl rfl ?_
  refine ke _ _ ?_
  refine A1 (Cont.of rfl hs) rfl rfl rfl (fun K ke => ?_)
  refine r_app0m (f := mT) (sz := 1) (xs := []) (ys := [id]) hG rfl rfl rfl rfl rfl rfl rfl ⟨_, rfl⟩ rfl rfl rfl rfl rfl rfl rfl (by simp) (fun k1 => ?_)
  refine ke _ _ ?_
  refine A1 (Cont.of rfl hs) rfl rfl rfl (fun K ke => ?_)
  refine Bm (objs := fun _ => none) hG rfl rfl rfl rfl rfl ⟨_, rfl⟩ rfl rfl rfl (fun i o h => by cases h) rfl rfl ?_
  refine ke _ _ ?_
  refine eqc ?_
  repeat' (first | (show AL _ _ _ _ _ _ _ _; first | refine so2 ?_ | (refine sa ?_; intro k)) | (show DL _ _ _ _ _ _ _; first | refine do2 ?_) | (show AW _ _ _ _ _ _; (fail_if_success show AW _ _ (.region 8 _ _) _ _ _); first | (show AW _ _ (.region _ _ _) _ _ _; refine sc0 ?_; intro O1) | (refine sc1 ?_; try intro Q1)) | (show (_ → _) ∧ _; refine ⟨fun h => ?_, fun h => ?_⟩) | fail)
  refine aw_ghost (wk_step (i := q) (cs := [bT v, .sl 1 (.tok k1) (([] ++ [id]).map mT), .sl 1 .no []]) (ds := [bT v, .sl 1 .no [mT id], .sl 1 .no []]) hs (wkc (.refl _) (wkc (Wk.own _ _ _) (wkc (.refl _) trivial)))) ?_
  refine Bh (m := 20) [8, 12, 19] (Cont [(q, .cells [bT v, .sl 1 .no [mT id], .sl 1 .no []])]) mix Y (by repeat (first | exact Sp.zero _ | apply Sp.succ)) ?_; intro O1 F1 Z1 Q2; repeat' (first | (show DQ _ _ _ _ _ _ _ _ _; first | refine ep2 ?_) | (show EL _ _ _ _ _ _ _ _ _; first | refine eqc ?_ | (refine ec ?_; intro i)) | (show (_ → _) ∧ _; refine ⟨fun h => ?_, fun h => ?_⟩) | fail)
  refine A1 (Cont.of rfl hs) rfl rfl rfl (fun K ke => ?_)
  refine Bm (objs := fun _ => none) hG rfl rfl rfl rfl rfl ⟨_, rfl⟩ rfl rfl rfl (fun i o h => by cases h) rfl rfl ?_
  refine ke _ _ ?_
  refine A1 (Cont.of rfl hs) rfl rfl rfl (fun K ke => ?_)
  refine aop_app0N (objs := fun _ => none) (ys := [strT b]) hG rfl rfl rfl rfl rfl ⟨_, rfl⟩ rfl rfl (fun i o h => by cases h) rfl rfl (by simp) (by simp) rfl (fun r2 _ => ?_)
  refine ke _ _ ?_
  refine A1 (Cont.of rfl hs) rfl rfl rfl (fun K ke => ?_)
  refine Bm (objs := fun _ => none) hG rfl rfl rfl rfl rfl ⟨_, rfl⟩ rfl rfl rfl (fun i o h => by cases h) rfl rfl ?_
  refine ke _ _ ?_
  refine eqc ?_
  repeat' (first | (show AL _ _ _ _ _ _ _ _; first | refine so2 ?_ | (refine sa ?_; intro k)) | (show DL _ _ _ _ _ _ _; first | refine do2 ?_) | (show AW _ _ _ _ _ _; first | (show AW _ _ (.region _ _ _) _ _ _; refine sc0 ?_; intro O1) | (refine sc1 ?_; try intro Q1)) | (show (_ → _) ∧ _; refine ⟨fun h => ?_, fun h => ?_⟩) | fail)
  exact ret_on (L' := [(q, .cells [bT v, .sl 1 .no [mT id], .aref 1 r2 0 1 none]), (r2, .cells [strT b])]) (Ae rfl Ag) hs (.refl _) rfl ⟨r2, rfl, (e1 r2).symm⟩
set_option maxHeartbeats 9000000 in
theorem d_Put_newN (v : UInt8) (ps : List PB) (hne : ps ≠ []) (hl : ps.length ≤ 1000) {id : Nat} {b : List UInt8} (hid : id < 18446744073709551616) (hb : b.length ≤ 4294967296) (hp : putsB v b = true) (hh : hasP ps id = false) (q r : Nat) :
    OnL Try.prog 36 [.ptr q 0, .int .u64 (id : Int), sT b] (rfL v ps q r) (fun u L => ∃ r', u = .int .i64 0 ∧ L = rfL v (insP ps id b) q r') := by
  unfold putsB at hp
  rw [Bool.and_eq_true, decide_eq_true_eq, decide_eq_true_eq] at hp
  obtain ⟨h0, h1⟩ := hp
  have h2 : ((b.getD 0 default).toNat : Int) = ((v.toNat : Nat) : Int) := by rw [h1]
  have hA := d_at v ps (by omega) hid q r
  have hle := cntP_le ps id
  have hii := ins_ids (b := b) hh
  have hir := ins_rs (b := b) hh
  rw [hh] at hA
  have hpos : 0 < ps.length := List.length_pos_iff.2 hne
  have hrn := rs_ne hpos
  have hrl := rs_len ps
  have hil := ids_len ps
  have hR : ∀ r', rfL v (insP ps id b) q r' = [(q, .cells [bT v, .sl 1 .no ((((idsP ps).take (cntP ps id) ++ [id]) ++ (idsP ps).drop (cntP ps id)).map mT), .aref 1 r' 0 (ps.length + 1) none]), (r', .cells ((((rsP ps).take (cntP ps id) ++ [b]) ++ (rsP ps).drop (cntP ps id)).map strT))] := by
    intro r'
    have hn2 : ((rsP ps).take (cntP ps id) ++ [b]) ++ (rsP ps).drop (cntP ps id) ≠ [] := by simp
    have hlen : (((rsP ps).take (cntP ps id) ++ [b]) ++ (rsP ps).drop (cntP ps id)).length = ps.length + 1 := by simp; omega
    unfold rfL
    rw [hii, hir, rcT_ne hn2, rcR_ne hn2, hlen]
  clear hii hir
  unfold rfL at hA
  rw [rcT_ne hrn, rcR_ne hrn, hrl] at hA
  rw [show rfL v ps q r = [(q, .cells [bT v, .sl 1 .no ((idsP ps).map mT), .aref 1 r 0 ps.length none]), (r, .cells ((rsP ps).map strT))] by unfold rfL; rw [rcT_ne hrn, rcR_ne hrn, hrl]]
  generalize cntP ps id = k at *
  have htk : ((idsP ps).take k).length = k := by rw [List.length_take]; omega
  have hdk : ((idsP ps).drop k).length = ps.length - k := by rw [List.length_drop]; omega
  have hf1 : flat [strT b] = [strT b] := rfl
  have htd : ((rsP ps).drop k).take (ps.length - k) = (rsP ps).drop k := List.take_of_length_le (by rw [List.length_drop]; omega)
  intro off
  refine Af (N := 80) (rs := [.tmp 6]) hG Try.func36 rfl rfl rfl rfl rfl ?_
  repeat' (first | (show AL _ _ _ _ _ _ _ _; first | refine so2 ?_ | refine al_onS hA Y Y Y Y Y hs ?_ | (refine sa ?_; intro k)) | (show DL _ _ _ _ _ _ _; first | refine do2 ?_ | refine dl_on hA Y Y Y Y Y Y hs ?_) | (show AW _ _ _ _ _ _; (fail_if_success show AW _ _ (.region 7 _ _) _ _ _); first | (show AW _ _ (.region _ _ _) _ _ _; refine sc0 ?_; intro O1) | (refine sc1 ?_; try intro Q1)) | (show (_ → _) ∧ _; refine ⟨fun h => ?_, fun h => ?_⟩) | fail)
  · exact absurd h2 h
  refine Bh (m := 19) [8, 11, 18] (Cont [(q, .cells [bT v, .sl 1 .no ((idsP ps).map mT), .aref 1 r 0 ps.length none])]) mix Y (by repeat (first | exact Sp.zero _ | apply Sp.succ)) ?_; intro O1 F1 Z1 Q2; repeat' (first | (show DQ _ _ _ _ _ _ _ _ _; first | refine ep2 ?_) | (show EL _ _ _ _ _ _ _ _ _; first | refine eqc ?_ | (refine ec ?_; intro i)) | (show (_ → _) ∧ _; refine ⟨fun h => ?_, fun h => ?_⟩) | fail)
  refine A1 (Cont.of rfl hs) rfl rfl rfl (fun K ke => ?_)
  refine r_app0m (f := mT) (sz := 1) (xs := []) (ys := (idsP ps).take k) hG rfl rfl rfl rfl rfl rfl rfl ⟨_, rfl⟩ rfl rfl rfl rfl rfl rfl rfl (by simp only [List.length_nil]; omega) (fun k1 => ?_)
  refine ke _ _ ?_
  refine A1 (Cont.of rfl hs) rfl rfl rfl (fun K ke => ?_)
  refine r_appm 0 (f := mT) (ys := [id]) hG rfl rfl rfl rfl rfl rfl rfl ⟨_, rfl⟩ rfl rfl rfl rfl rfl (by simp only [List.length_append, List.length_nil, List.length_cons]; omega) (fun k2 => ?_)
  refine ke _ _ ?_
  refine A1 (Cont.of rfl hs) rfl rfl rfl (fun K ke => ?_)
  refine r_appm 0 (f := mT) (ys := (idsP ps).drop k) hG rfl rfl rfl rfl rfl rfl rfl ⟨_, rfl⟩ rfl rfl rfl rfl rfl (by simp only [List.length_append, List.length_nil, List.length_cons]; omega) (fun k3 => ?_)
  refine ke _ _ ?_
  refine eqc ?_
  repeat' (first | (show AL _ _ _ _ _ _ _ _; first | refine so2 ?_ | (refine sa ?_; intro k)) | (show DL _ _ _ _ _ _ _; first | refine do2 ?_) | (show AW _ _ _ _ _ _; (fail_if_success show AW _ _ (.region 8 _ _) _ _ _); first | (show AW _ _ (.region _ _ _) _ _ _; refine sc0 ?_; intro O1) | (refine sc1 ?_; try intro Q1)) | (show (_ → _) ∧ _; refine ⟨fun h => ?_, fun h => ?_⟩) | fail)
  refine aw_ghost (wk_step (i := q) (cs := [bT v, .sl 1 (.tok k3) (((([] ++ (idsP ps).take k) ++ [id]) ++ (idsP ps).drop k).map mT), .aref 1 r 0 ps.length none]) (ds := [bT v, .sl 1 .no ((((idsP ps).take k ++ [id]) ++ (idsP ps).drop k).map mT), .aref 1 r 0 ps.length none]) hs (wkc (.refl _) (wkc (Wk.own _ _ _) (wkc (.refl _) trivial)))) ?_
  by_cases k0 : k = 0
  · skip
    refine Bh (m := 20) [8, 12, 19] (Cont [(q, .cells [bT v, .sl 1 .no ((((idsP ps).take k ++ [id]) ++ (idsP ps).drop k).map mT), .aref 1 r 0 ps.length none]), (r, .cells ((rsP ps).map strT))]) mix Y (by repeat (first | exact Sp.zero _ | apply Sp.succ)) ?_; intro O1 F1 Z1 Q2; repeat' (first | (show DQ _ _ _ _ _ _ _ _ _; first | refine ep2 ?_) | (show EL _ _ _ _ _ _ _ _ _; first | refine eqc ?_ | (refine ec ?_; intro i)) | (show (_ → _) ∧ _; refine ⟨fun h => ?_, fun h => ?_⟩) | fail)
    refine' dq_cons rfl rfl rfl (fun σ hσ K kk => r_slHi0 hG rfl rfl k0 rfl rfl rfl rfl rfl kk) ?_
    repeat' (first | (show DQ _ _ _ _ _ _ _ _ _; first | refine ep2 ?_) | (show EL _ _ _ _ _ _ _ _ _; first | refine eqc ?_ | (refine ec ?_; intro i)) | (show (_ → _) ∧ _; refine ⟨fun h => ?_, fun h => ?_⟩) | fail)
    refine' dq_cons rfl rfl rfl (fun σ hσ K kk => r_slLo hG rfl rfl rfl rfl rfl rfl rfl (by omega) kk) ?_
    repeat' (first | (show DQ _ _ _ _ _ _ _ _ _; first | refine ep2 ?_) | (show EL _ _ _ _ _ _ _ _ _; first | refine eqc ?_ | (refine ec ?_; intro i)) | (show (_ → _) ∧ _; refine ⟨fun h => ?_, fun h => ?_⟩) | fail)
    refine A1 (Cont.of rfl hs) rfl rfl rfl (fun K ke => ?_)
    refine Bm (objs := fun _ => none) hG rfl rfl rfl rfl rfl ⟨_, rfl⟩ rfl rfl rfl (fun i o h => by cases h) rfl rfl ?_
    refine ke _ _ ?_
    refine A1 (Cont.of rfl hs) rfl rfl rfl (fun K ke => ?_)
    refine aop_app0N (objs := fun _ => none) (ys := [strT b]) hG rfl rfl rfl rfl rfl ⟨_, rfl⟩ rfl rfl (fun i o h => by cases h) rfl rfl (by simp) (by simp) rfl (fun r2 _ => ?_)
    refine ke _ _ ?_
    refine A1 (Cont.of rfl hs) rfl rfl rfl (fun K ke => ?_)
    refine aop_appL (n := 0) (objs := fun j => if j = r then some (.cells ((rsP ps).map strT)) else none) (ys := (((rsP ps).drop k).take (ps.length - k)).map strT) hG rfl rfl rfl rfl rfl ⟨_, rfl⟩ rfl rfl ?_ rfl (obj_row (by first | exact List.mem_cons_self | exact List.mem_cons_of_mem _ List.mem_cons_self | exact List.mem_cons_of_mem _ (List.mem_cons_of_mem _ List.mem_cons_self) | exact List.mem_cons_of_mem _ (List.mem_cons_of_mem _ (List.mem_cons_of_mem _ List.mem_cons_self)))) (src_row (by omega)) rfl ?_ ?_ rfl (fun r3 _ => ?_)
    · simp only [A4, hf1, List.drop_zero, List.length_append, List.length_map, List.length_take, List.length_drop, List.length_cons, List.length_nil] <;> omega
    · exact enc_scal strT _
    · simp only [A4, hf1, List.drop_zero, List.length_append, List.length_map, List.length_take, List.length_drop, List.length_cons, List.length_nil] <;> omega
    refine ke _ _ ?_
    refine eqc ?_
    repeat' (first | (show AL _ _ _ _ _ _ _ _; first | refine so2 ?_ | (refine sa ?_; intro k)) | (show DL _ _ _ _ _ _ _; first | refine do2 ?_) | (show AW _ _ _ _ _ _; first | (show AW _ _ (.region _ _ _) _ _ _; refine sc0 ?_; intro O1) | (refine sc1 ?_; try intro Q1)) | (show (_ → _) ∧ _; refine ⟨fun h => ?_, fun h => ?_⟩) | fail)
    refine ret_on (L' := [(q, _), (r3, .cells _)]) (Ae rfl Ag) hs (.refl _) rfl ⟨r3, rfl, ?_⟩
    rw [hR]
    refine congr (congrArg List.cons (congrArg (fun n => (q, Ob.cells [bT v, .sl 1 .no ((((idsP ps).take k ++ [id]) ++ (idsP ps).drop k).map mT), .aref 1 r3 0 n none])) ?_)) (congrArg (fun x => [(r3, Ob.cells x)]) ?_)
    · simp only [A4, hf1, List.drop_zero, List.length_append, List.length_map, List.length_take, List.length_drop, List.length_cons, List.length_nil] <;> omega
    · rw [htd, A4, hf1, List.drop_zero, k0]; simp
  by_cases kn : k = ps.length
  · skip
    refine Bh (m := 20) [8, 12, 19] (Cont [(q, .cells [bT v, .sl 1 .no ((((idsP ps).take k ++ [id]) ++ (idsP ps).drop k).map mT), .aref 1 r 0 ps.length none]), (r, .cells ((rsP ps).map strT))]) mix Y (by repeat (first | exact Sp.zero _ | apply Sp.succ)) ?_; intro O1 F1 Z1 Q2; repeat' (first | (show DQ _ _ _ _ _ _ _ _ _; first | refine ep2 ?_) | (show EL _ _ _ _ _ _ _ _ _; first | refine eqc ?_ | (refine ec ?_; intro i)) | (show (_ → _) ∧ _; refine ⟨fun h => ?_, fun h => ?_⟩) | fail)
    refine' dq_cons rfl rfl rfl (fun σ hσ K kk => r_slHi hG rfl rfl rfl rfl rfl rfl rfl ⟨by omega, by omega⟩ kk) ?_
    repeat' (first | (show DQ _ _ _ _ _ _ _ _ _; first | refine ep2 ?_) | (show EL _ _ _ _ _ _ _ _ _; first | refine eqc ?_ | (refine ec ?_; intro i)) | (show (_ → _) ∧ _; refine ⟨fun h => ?_, fun h => ?_⟩) | fail)
    refine' dq_cons rfl rfl rfl (fun σ hσ K kk => r_slLoN hG rfl rfl rfl rfl rfl rfl rfl (by omega) kk) ?_
    repeat' (first | (show DQ _ _ _ _ _ _ _ _ _; first | refine ep2 ?_) | (show EL _ _ _ _ _ _ _ _ _; first | refine eqc ?_ | (refine ec ?_; intro i)) | (show (_ → _) ∧ _; refine ⟨fun h => ?_, fun h => ?_⟩) | fail)
    refine A1 (Cont.of rfl hs) rfl rfl rfl (fun K ke => ?_)
    refine aop_app0N (objs := fun j => if j = r then some (.cells ((rsP ps).map strT)) else none) (ys := (((rsP ps).drop 0).take k).map strT) hG rfl rfl rfl rfl rfl ⟨_, rfl⟩ rfl rfl (obj_row (by first | exact List.mem_cons_self | exact List.mem_cons_of_mem _ List.mem_cons_self | exact List.mem_cons_of_mem _ (List.mem_cons_of_mem _ List.mem_cons_self) | exact List.mem_cons_of_mem _ (List.mem_cons_of_mem _ (List.mem_cons_of_mem _ List.mem_cons_self)))) (src_row (by omega)) rfl (by simp; exact ⟨by omega, hrn⟩) (by simp; omega) rfl (fun r2 _ => ?_)
    refine ke _ _ ?_
    refine A1 (Cont.of rfl hs) rfl rfl rfl (fun K ke => ?_)
    refine aop_appL (n := 0) (objs := fun _ => none) (ys := [strT b]) hG rfl rfl rfl rfl rfl ⟨_, rfl⟩ rfl rfl ?_ rfl (fun i o h => by cases h) rfl rfl ?_ ?_ rfl (fun r3 _ => ?_)
    · simp only [A4, hf1, List.drop_zero, List.length_append, List.length_map, List.length_take, List.length_drop, List.length_cons, List.length_nil] <;> omega
    · exact enc_scal strT [b]
    · simp only [A4, hf1, List.drop_zero, List.length_append, List.length_map, List.length_take, List.length_drop, List.length_cons, List.length_nil] <;> omega
    refine ke _ _ ?_
    refine A1 (Cont.of rfl hs) rfl rfl rfl (fun K ke => ?_)
    refine Bm (objs := fun _ => none) hG rfl rfl rfl rfl rfl ⟨_, rfl⟩ rfl rfl rfl (fun i o h => by cases h) rfl rfl ?_
    refine ke _ _ ?_
    refine eqc ?_
    repeat' (first | (show AL _ _ _ _ _ _ _ _; first | refine so2 ?_ | (refine sa ?_; intro k)) | (show DL _ _ _ _ _ _ _; first | refine do2 ?_) | (show AW _ _ _ _ _ _; first | (show AW _ _ (.region _ _ _) _ _ _; refine sc0 ?_; intro O1) | (refine sc1 ?_; try intro Q1)) | (show (_ → _) ∧ _; refine ⟨fun h => ?_, fun h => ?_⟩) | fail)
    refine ret_on (L' := [(q, _), (r3, .cells _)]) (Ae rfl Ag) hs (.refl _) rfl ⟨r3, rfl, ?_⟩
    rw [hR]
    refine congr (congrArg List.cons (congrArg (fun n => (q, Ob.cells [bT v, .sl 1 .no ((((idsP ps).take k ++ [id]) ++ (idsP ps).drop k).map mT), .aref 1 r3 0 n none])) ?_)) (congrArg (fun x => [(r3, Ob.cells x)]) ?_)
    · simp only [A4, hf1, List.drop_zero, List.length_append, List.length_map, List.length_take, List.length_drop, List.length_cons, List.length_nil] <;> omega
    · rw [A4, hf1, List.drop_zero, List.drop_zero, List.drop_eq_nil_of_le (show (rsP ps).length ≤ k by omega)]; simp
  · skip
    refine Bh (m := 20) [8, 12, 19] (Cont [(q, .cells [bT v, .sl 1 .no ((((idsP ps).take k ++ [id]) ++ (idsP ps).drop k).map mT), .aref 1 r 0 ps.length none]), (r, .cells ((rsP ps).map strT))]) mix Y (by repeat (first | exact Sp.zero _ | apply Sp.succ)) ?_; intro O1 F1 Z1 Q2; repeat' (first | (show DQ _ _ _ _ _ _ _ _ _; first | refine ep2 ?_) | (show EL _ _ _ _ _ _ _ _ _; first | refine eqc ?_ | (refine ec ?_; intro i)) | (show (_ → _) ∧ _; refine ⟨fun h => ?_, fun h => ?_⟩) | fail)
    refine' dq_cons rfl rfl rfl (fun σ hσ K kk => r_slHi hG rfl rfl rfl rfl rfl rfl rfl ⟨by omega, by omega⟩ kk) ?_
    repeat' (first | (show DQ _ _ _ _ _ _ _ _ _; first | refine ep2 ?_) | (show EL _ _ _ _ _ _ _ _ _; first | refine eqc ?_ | (refine ec ?_; intro i)) | (show (_ → _) ∧ _; refine ⟨fun h => ?_, fun h => ?_⟩) | fail)
    refine' dq_cons rfl rfl rfl (fun σ hσ K kk => r_slLo hG rfl rfl rfl rfl rfl rfl rfl (by omega) kk) ?_
    repeat' (first | (show DQ _ _ _ _ _ _ _ _ _; first | refine ep2 ?_) | (show EL _ _ _ _ _ _ _ _ _; first | refine eqc ?_ | (refine ec ?_; intro i)) | (show (_ → _) ∧ _; refine ⟨fun h => ?_, fun h => ?_⟩) | fail)
    refine A1 (Cont.of rfl hs) rfl rfl rfl (fun K ke => ?_)
    refine aop_app0N (objs := fun j => if j = r then some (.cells ((rsP ps).map strT)) else none) (ys := (((rsP ps).drop 0).take k).map strT) hG rfl rfl rfl rfl rfl ⟨_, rfl⟩ rfl rfl (obj_row (by first | exact List.mem_cons_self | exact List.mem_cons_of_mem _ List.mem_cons_self | exact List.mem_cons_of_mem _ (List.mem_cons_of_mem _ List.mem_cons_self) | exact List.mem_cons_of_mem _ (List.mem_cons_of_mem _ (List.mem_cons_of_mem _ List.mem_cons_self)))) (src_row (by omega)) rfl (by simp; exact ⟨by omega, hrn⟩) (by simp; omega) rfl (fun r2 _ => ?_)
    refine ke _ _ ?_
    refine A1 (Cont.of rfl hs) rfl rfl rfl (fun K ke => ?_)
    refine aop_appL (n := 0) (objs := fun _ => none) (ys := [strT b]) hG rfl rfl rfl rfl rfl ⟨_, rfl⟩ rfl rfl ?_ rfl (fun i o h => by cases h) rfl rfl ?_ ?_ rfl (fun r3 _ => ?_)
    · simp only [A4, hf1, List.drop_zero, List.length_append, List.length_map, List.length_take, List.length_drop, List.length_cons, List.length_nil] <;> omega
    · exact enc_scal strT [b]
    · simp only [A4, hf1, List.drop_zero, List.length_append, List.length_map, List.length_take, List.length_drop, List.length_cons, List.length_nil] <;> omega
    refine ke _ _ ?_
    refine A1 (Cont.of rfl hs) rfl rfl rfl (fun K ke => ?_)
    refine aop_appL (n := 0) (objs := fun j => if j = r then some (.cells ((rsP ps).map strT)) else none) (ys := (((rsP ps).drop k).take (ps.length - k)).map strT) hG rfl rfl rfl rfl rfl ⟨_, rfl⟩ rfl rfl ?_ rfl (obj_row (by first | exact List.mem_cons_self | exact List.mem_cons_of_mem _ List.mem_cons_self | exact List.mem_cons_of_mem _ (List.mem_cons_of_mem _ List.mem_cons_self) | exact List.mem_cons_of_mem _ (List.mem_cons_of_mem _ (List.mem_cons_of_mem _ List.mem_cons_self)))) (src_row (by omega)) rfl ?_ ?_ rfl (fun r4 _ => ?_)
    · simp only [A4, hf1, List.drop_zero, List.length_append, List.length_map, List.length_take, List.length_drop, List.length_cons, List.length_nil] <;> omega
    · exact enc_scal strT _
    · simp only [A4, hf1, List.drop_zero, List.length_append, List.length_map, List.length_take, List.length_drop, List.length_cons, List.length_nil] <;> omega
    refine ke _ _ ?_
    refine eqc ?_
    repeat' (first | (show AL _ _ _ _ _ _ _ _; first | refine so2 ?_ | (refine sa ?_; intro k)) | (show DL _ _ _ _ _ _ _; first | refine do2 ?_) | (show AW _ _ _ _ _ _; first | (show AW _ _ (.region _ _ _) _ _ _; refine sc0 ?_; intro O1) | (refine sc1 ?_; try intro Q1)) | (show (_ → _) ∧ _; refine ⟨fun h => ?_, fun h => ?_⟩) | fail)
    refine ret_on (L' := [(q, _), (r4, .cells _)]) (Ae rfl Ag) hs (.refl _) rfl ⟨r4, rfl, ?_⟩
    rw [hR]
    refine congr (congrArg List.cons (congrArg (fun n => (q, Ob.cells [bT v, .sl 1 .no ((((idsP ps).take k ++ [id]) ++ (idsP ps).drop k).map mT), .aref 1 r4 0 n none])) ?_)) (congrArg (fun x => [(r4, Ob.cells x)]) ?_)
    · simp only [A4, hf1, List.drop_zero, List.length_append, List.length_map, List.length_take, List.length_drop, List.length_cons, List.length_nil] <;> omega
    · rw [htd, A4, A4, hf1, List.drop_zero, List.drop_zero, List.drop_zero]; simp
end Go.Proofs.Ythfgocinlbogeaa
set_option maxHeartbeats 4000000
namespace Go.Proofs.Ythfgocinlbogeaa
open Go.Ts
set_option linter.unusedSimpArgs false
set_option linter.unusedVariables false
attribute [local irreducible] Go.Ts.AW Go.Ts.AOps Go.Ts.AL Go.Ts.AOp Go.Ts.ACalls Go.Ts.DL Go.Ts.DQ Go.Ts.DQ0 Go.Ts.EL
theorem d_Put (v : UInt8) (ps : List PB) (hl : ps.length ≤ 1000) {id : Nat} {b : List UInt8} (hid : id < 18446744073709551616) (hb : b.length ≤ 4294967296) (hp : putsB v b = true) (q r : Nat) :
    OnL Try.prog 36 [.ptr q 0, .int .u64 (id : Int), sT b] (rfL v ps q r) (fun u L => ∃ r', u = .int .i64 0 ∧ L = rfL v (insP ps id b) q r') := by
  cases hh : hasP ps id with
  | true => exact fun off => (d_Put_is v ps hl hid hb hp hh q r off).mono fun u σ' ⟨L', ⟨h1, h2⟩, h3⟩ => ⟨L', ⟨r, h1, h2⟩, h3⟩
  | false =>
    by_cases hne : ps = []
    · subst hne
      have e : insP [] id b = [(id, b)] := by simp [insP, hasP, cntP]
      rw [e]
      exact d_Put_new0 v hid hb hp q r
    · exact d_Put_newN v ps hne hl hid hb hp hh q r
theorem d_Drop_no (v : UInt8) (ps : List PB) (hl : ps.length ≤ 1000) {id : Nat} (hid : id < 18446744073709551616) (hh : hasP ps id = false) (q r : Nat) :
    OnL Try.prog 38 [.ptr q 0, .int .u64 (id : Int)] (rfL v ps q r) (fun u L => u = .int .i64 7 ∧ L = rfL v ps q r) := by
  have hA := d_at v ps (by omega) hid q r
  rw [hh] at hA
  intro off
  refine Af (N := 53) (rs := [.tmp 4]) hG Try.func38 rfl rfl rfl rfl rfl ?_
  repeat' (first | (show AL _ _ _ _ _ _ _ _; first | refine so2 ?_ | (refine sa ?_; intro k)) | (show DL _ _ _ _ _ _ _; first | refine do2 ?_) | (show AW _ _ _ _ _ _; first | (show AW _ _ (.region _ _ _) _ _ _; refine sc0 ?_; intro O1) | (refine sc1 ?_; try intro Q1)) | (show (_ → _) ∧ _; refine ⟨fun h => ?_, fun h => ?_⟩) | fail)
  refine Ac rfl (r_onL rfl rfl rfl rfl (Lf := []) (by rw [List.append_nil]) hA ?_)
  rintro u L' ⟨rfl, rfl⟩
  repeat' (first | (show AL _ _ _ _ _ _ _ _; first | refine so2 ?_ | (refine sa ?_; intro k)) | (show DL _ _ _ _ _ _ _; first | refine do2 ?_) | (show AW _ _ _ _ _ _; first | (show AW _ _ (.region _ _ _) _ _ _; refine sc0 ?_; intro O1) | (refine sc1 ?_; try intro Q1)) | (show (_ → _) ∧ _; refine ⟨fun h => ?_, fun h => ?_⟩) | fail)
  exact Az (Ae rfl Ag) (.refl _) (by rw [List.append_nil]) (.refl _) rfl ⟨rfl, rfl⟩
set_option maxHeartbeats 9000000 in
theorem d_Drop_is (v : UInt8) (ps : List PB) (hl : ps.length ≤ 1000) {id : Nat} (hid : id < 18446744073709551616) (hh : hasP ps id = true) (q r : Nat) :
    OnL Try.prog 38 [.ptr q 0, .int .u64 (id : Int)] (rfL v ps q r) (fun u L => ∃ r', u = .int .i64 0 ∧ L = rfL v (delP ps id) q r') := by
  have hA := d_at v ps (by omega) hid q r
  have hlt : cntP ps id < ps.length := by unfold hasP at hh; rw [Bool.and_eq_true, decide_eq_true_eq] at hh; exact hh.1
  rw [hh] at hA
  have hpos : 0 < ps.length := by omega
  have hrn := rs_ne hpos
  have hrl := rs_len ps
  have hil := ids_len ps
  have hR1 : ∀ r', 1 < ps.length → rfL v (delP ps id) q r' = [(q, .cells [bT v, .sl 1 .no (((idsP ps).take (cntP ps id) ++ (idsP ps).drop (cntP ps id + 1)).map mT), .aref 1 r' 0 (ps.length - 1) none]), (r', .cells (((rsP ps).take (cntP ps id) ++ (rsP ps).drop (cntP ps id + 1)).map strT))] := by
    intro r' h1
    have e1 : idsP (delP ps id) = (idsP ps).take (cntP ps id) ++ (idsP ps).drop (cntP ps id + 1) := by simp [delP, idsP, List.map_take, List.map_drop]
    have e2 : rsP (delP ps id) = (rsP ps).take (cntP ps id) ++ (rsP ps).drop (cntP ps id + 1) := by simp [delP, rsP, List.map_take, List.map_drop]
    have hlen : ((rsP ps).take (cntP ps id) ++ (rsP ps).drop (cntP ps id + 1)).length = ps.length - 1 := by simp; omega
    have hn2 : (rsP ps).take (cntP ps id) ++ (rsP ps).drop (cntP ps id + 1) ≠ [] := List.ne_nil_of_length_pos (by omega)
    unfold rfL
    rw [e1, e2, rcT_ne hn2, rcR_ne hn2, hlen]
  have hR0 : ∀ r', ps.length = 1 → rfL v (delP ps id) q r' = [(q, .cells [bT v, .sl 1 .no [], .sl 1 .no []])] := by
    intro r' h1
    have : delP ps id = [] := by
      apply List.length_eq_zero_iff.1
      unfold delP
      simp; omega
    rw [this]; rfl
  unfold rfL at hA
  rw [rcT_ne hrn, rcR_ne hrn, hrl] at hA
  rw [show rfL v ps q r = [(q, .cells [bT v, .sl 1 .no ((idsP ps).map mT), .aref 1 r 0 ps.length none]), (r, .cells ((rsP ps).map strT))] by unfold rfL; rw [rcT_ne hrn, rcR_ne hrn, hrl]]
  generalize cntP ps id = k at *
  have htk : ((idsP ps).take k).length = k := by rw [List.length_take]; omega
  have hdk : ((idsP ps).drop (k + 1)).length = ps.length - (k + 1) := by rw [List.length_drop]; omega
  have htd : ((rsP ps).drop (k + 1)).take (ps.length - (k + 1)) = (rsP ps).drop (k + 1) := List.take_of_length_le (by rw [List.length_drop]; omega)
  intro off
  refine Af (N := 53) (rs := [.tmp 4]) hG Try.func38 rfl rfl rfl rfl rfl ?_
  repeat' (first | (show AL _ _ _ _ _ _ _ _; first | refine so2 ?_ | refine al_onS hA Y Y Y Y Y hs ?_ | (refine sa ?_; intro k)) | (show DL _ _ _ _ _ _ _; first | refine do2 ?_ | refine dl_on hA Y Y Y Y Y Y hs ?_) | (show AW _ _ _ _ _ _; (fail_if_success show AW _ _ (.region 4 _ _) _ _ _); first | (show AW _ _ (.region _ _ _) _ _ _; refine sc0 ?_; intro O1) | (refine sc1 ?_; try intro Q1)) | (show (_ → _) ∧ _; refine ⟨fun h => ?_, fun h => ?_⟩) | fail)
  refine Bh (m := 17) [8, 16] (Cont [(q, .cells [bT v, .sl 1 .no ((idsP ps).map mT), .aref 1 r 0 ps.length none])]) mix Y (by repeat (first | exact Sp.zero _ | apply Sp.succ)) ?_; intro O1 F1 Z1 Q2; repeat' (first | (show DQ _ _ _ _ _ _ _ _ _; first | refine ep2 ?_) | (show EL _ _ _ _ _ _ _ _ _; first | refine eqc ?_ | (refine ec ?_; intro i)) | (show (_ → _) ∧ _; refine ⟨fun h => ?_, fun h => ?_⟩) | fail)
  refine A1 (Cont.of rfl hs) rfl rfl rfl (fun K ke => ?_)
  refine r_app0m (f := mT) (sz := 1) (xs := []) (ys := (idsP ps).take k) hG rfl rfl rfl rfl rfl rfl rfl ⟨_, rfl⟩ rfl rfl rfl rfl rfl rfl rfl (by simp only [List.length_nil]; omega) (fun k1 => ?_)
  refine ke _ _ ?_
  refine A1 (Cont.of rfl hs) rfl rfl rfl (fun K ke => ?_)
  refine r_appm 0 (f := mT) (ys := (idsP ps).drop (k + 1)) hG rfl rfl rfl rfl rfl rfl rfl ⟨_, rfl⟩ rfl rfl rfl rfl rfl (by simp only [List.length_append, List.length_nil, List.length_cons]; omega) (fun k2 => ?_)
  refine ke _ _ ?_
  refine eqc ?_
  repeat' (first | (show AL _ _ _ _ _ _ _ _; first | refine so2 ?_ | (refine sa ?_; intro k)) | (show DL _ _ _ _ _ _ _; first | refine do2 ?_) | (show AW _ _ _ _ _ _; (fail_if_success show AW _ _ (.region 5 _ _) _ _ _); first | (show AW _ _ (.region _ _ _) _ _ _; refine sc0 ?_; intro O1) | (refine sc1 ?_; try intro Q1)) | (show (_ → _) ∧ _; refine ⟨fun h => ?_, fun h => ?_⟩) | fail)
  refine aw_ghost (wk_step (i := q) (cs := [bT v, .sl 1 (.tok k2) ((([] ++ (idsP ps).take k) ++ (idsP ps).drop (k + 1)).map mT), .aref 1 r 0 ps.length none]) (ds := [bT v, .sl 1 .no (((idsP ps).take k ++ (idsP ps).drop (k + 1)).map mT), .aref 1 r 0 ps.length none]) hs (wkc (.refl _) (wkc (Wk.own _ _ _) (wkc (.refl _) trivial)))) ?_
  by_cases k0 : k = 0
  · by_cases n1 : ps.length = 1
    · skip
      refine Bh (m := 17) [8, 16] (Cont [(q, .cells [bT v, .sl 1 .no (((idsP ps).take k ++ (idsP ps).drop (k + 1)).map mT), .aref 1 r 0 ps.length none]), (r, .cells ((rsP ps).map strT))]) mix Y (by repeat (first | exact Sp.zero _ | apply Sp.succ)) ?_; intro O1 F1 Z1 Q2; repeat' (first | (show DQ _ _ _ _ _ _ _ _ _; first | refine ep2 ?_) | (show EL _ _ _ _ _ _ _ _ _; first | refine eqc ?_ | (refine ec ?_; intro i)) | (show (_ → _) ∧ _; refine ⟨fun h => ?_, fun h => ?_⟩) | fail)
      refine' dq_cons rfl rfl rfl (fun σ hσ K kk => r_slHi0 hG rfl rfl k0 rfl rfl rfl rfl rfl kk) ?_
      repeat' (first | (show DQ _ _ _ _ _ _ _ _ _; first | refine ep2 ?_) | (show EL _ _ _ _ _ _ _ _ _; first | refine eqc ?_ | (refine ec ?_; intro i)) | (show (_ → _) ∧ _; refine ⟨fun h => ?_, fun h => ?_⟩) | fail)
      refine' dq_cons rfl rfl rfl (fun σ hσ K kk => r_slLoN (z := k + 1) hG rfl rfl rfl rfl rfl rfl rfl (by omega) kk) ?_
      repeat' (first | (show DQ _ _ _ _ _ _ _ _ _; first | refine ep2 ?_) | (show EL _ _ _ _ _ _ _ _ _; first | refine eqc ?_ | (refine ec ?_; intro i)) | (show (_ → _) ∧ _; refine ⟨fun h => ?_, fun h => ?_⟩) | fail)
      refine A1 (Cont.of rfl hs) rfl rfl rfl (fun K ke => ?_)
      refine Bm (objs := fun _ => none) hG rfl rfl rfl rfl rfl ⟨_, rfl⟩ rfl rfl rfl (fun i o h => by cases h) rfl rfl ?_
      refine ke _ _ ?_
      refine A1 (Cont.of rfl hs) rfl rfl rfl (fun K ke => ?_)
      refine Bm (objs := fun _ => none) hG rfl rfl rfl rfl rfl ⟨_, rfl⟩ rfl rfl rfl (fun i o h => by cases h) rfl rfl ?_
      refine ke _ _ ?_
      refine eqc ?_
      repeat' (first | (show AL _ _ _ _ _ _ _ _; first | refine so2 ?_ | (refine sa ?_; intro k)) | (show DL _ _ _ _ _ _ _; first | refine do2 ?_) | (show AW _ _ _ _ _ _; (fail_if_success show AW _ _ (.region 6 _ _) _ _ _); first | (show AW _ _ (.region _ _ _) _ _ _; refine sc0 ?_; intro O1) | (refine sc1 ?_; try intro Q1)) | (show (_ → _) ∧ _; refine ⟨fun h => ?_, fun h => ?_⟩) | fail)
      refine aw_ghost (wk_step (i := q) (cs := [bT v, .sl 1 .no (((idsP ps).take k ++ (idsP ps).drop (k + 1)).map mT), .sl 1 .full []]) (ds := [bT v, .sl 1 .no [], .sl 1 .no []]) hs (wkc (.refl _) (wkc (.eq (by rw [List.drop_eq_nil_of_le (show (idsP ps).length ≤ k + 1 by omega), k0]; simp)) (wkc (Wk.own _ _ _) trivial)))) ?_
      repeat' (first | (show AL _ _ _ _ _ _ _ _; first | refine so2 ?_ | (refine sa ?_; intro k)) | (show DL _ _ _ _ _ _ _; first | refine do2 ?_) | (show AW _ _ _ _ _ _; first | (show AW _ _ (.region _ _ _) _ _ _; refine sc0 ?_; intro O1) | (refine sc1 ?_; try intro Q1)) | (show (_ → _) ∧ _; refine ⟨fun h => ?_, fun h => ?_⟩) | fail)
      refine ret_on (L' := [(q, .cells [bT v, .sl 1 .no [], .sl 1 .no []])]) (Ae rfl Ag) hs (.refl _) rfl ⟨r, rfl, (hR0 r n1).symm⟩
    · skip
      refine Bh (m := 17) [8, 16] (Cont [(q, .cells [bT v, .sl 1 .no (((idsP ps).take k ++ (idsP ps).drop (k + 1)).map mT), .aref 1 r 0 ps.length none]), (r, .cells ((rsP ps).map strT))]) mix Y (by repeat (first | exact Sp.zero _ | apply Sp.succ)) ?_; intro O1 F1 Z1 Q2; repeat' (first | (show DQ _ _ _ _ _ _ _ _ _; first | refine ep2 ?_) | (show EL _ _ _ _ _ _ _ _ _; first | refine eqc ?_ | (refine ec ?_; intro i)) | (show (_ → _) ∧ _; refine ⟨fun h => ?_, fun h => ?_⟩) | fail)
      refine' dq_cons rfl rfl rfl (fun σ hσ K kk => r_slHi0 hG rfl rfl k0 rfl rfl rfl rfl rfl kk) ?_
      repeat' (first | (show DQ _ _ _ _ _ _ _ _ _; first | refine ep2 ?_) | (show EL _ _ _ _ _ _ _ _ _; first | refine eqc ?_ | (refine ec ?_; intro i)) | (show (_ → _) ∧ _; refine ⟨fun h => ?_, fun h => ?_⟩) | fail)
      refine' dq_cons rfl rfl rfl (fun σ hσ K kk => r_slLo (z := k + 1) hG rfl rfl rfl rfl rfl rfl rfl (by omega) kk) ?_
      repeat' (first | (show DQ _ _ _ _ _ _ _ _ _; first | refine ep2 ?_) | (show EL _ _ _ _ _ _ _ _ _; first | refine eqc ?_ | (refine ec ?_; intro i)) | (show (_ → _) ∧ _; refine ⟨fun h => ?_, fun h => ?_⟩) | fail)
      refine A1 (Cont.of rfl hs) rfl rfl rfl (fun K ke => ?_)
      refine Bm (objs := fun _ => none) hG rfl rfl rfl rfl rfl ⟨_, rfl⟩ rfl rfl rfl (fun i o h => by cases h) rfl rfl ?_
      refine ke _ _ ?_
      refine A1 (Cont.of rfl hs) rfl rfl rfl (fun K ke => ?_)
      refine aop_app0N (objs := fun j => if j = r then some (.cells ((rsP ps).map strT)) else none) (ys := (((rsP ps).drop (k + 1)).take (ps.length - (k + 1))).map strT) hG rfl rfl rfl rfl rfl ⟨_, rfl⟩ rfl rfl (obj_row (by first | exact List.mem_cons_self | exact List.mem_cons_of_mem _ List.mem_cons_self | exact List.mem_cons_of_mem _ (List.mem_cons_of_mem _ List.mem_cons_self) | exact List.mem_cons_of_mem _ (List.mem_cons_of_mem _ (List.mem_cons_of_mem _ List.mem_cons_self)))) (src_row (by omega)) rfl (List.ne_nil_of_length_pos (by rw [List.length_map, List.length_take, List.length_drop]; omega)) (by simp only [A4, List.drop_zero, List.length_append, List.length_map, List.length_take, List.length_drop, List.length_cons, List.length_nil] <;> omega) rfl (fun r2 _ => ?_)
      refine ke _ _ ?_
      refine eqc ?_
      repeat' (first | (show AL _ _ _ _ _ _ _ _; first | refine so2 ?_ | (refine sa ?_; intro k)) | (show DL _ _ _ _ _ _ _; first | refine do2 ?_) | (show AW _ _ _ _ _ _; first | (show AW _ _ (.region _ _ _) _ _ _; refine sc0 ?_; intro O1) | (refine sc1 ?_; try intro Q1)) | (show (_ → _) ∧ _; refine ⟨fun h => ?_, fun h => ?_⟩) | fail)
      refine ret_on (L' := [(q, _), (r2, .cells _)]) (Ae rfl Ag) hs (.refl _) rfl ⟨r2, rfl, ?_⟩
      rw [hR1 _ (by omega)]
      refine congr (congrArg List.cons (congrArg (fun n => (q, Ob.cells [bT v, .sl 1 .no (((idsP ps).take k ++ (idsP ps).drop (k + 1)).map mT), .aref 1 r2 0 n none])) ?_)) (congrArg (fun x => [(r2, Ob.cells x)]) ?_)
      · simp only [A4, List.drop_zero, List.length_append, List.length_map, List.length_take, List.length_drop, List.length_cons, List.length_nil] <;> omega
      · rw [htd, A4, k0]; simp
  by_cases kn : k + 1 = ps.length
  · skip
    refine Bh (m := 17) [8, 16] (Cont [(q, .cells [bT v, .sl 1 .no (((idsP ps).take k ++ (idsP ps).drop (k + 1)).map mT), .aref 1 r 0 ps.length none]), (r, .cells ((rsP ps).map strT))]) mix Y (by repeat (first | exact Sp.zero _ | apply Sp.succ)) ?_; intro O1 F1 Z1 Q2; repeat' (first | (show DQ _ _ _ _ _ _ _ _ _; first | refine ep2 ?_) | (show EL _ _ _ _ _ _ _ _ _; first | refine eqc ?_ | (refine ec ?_; intro i)) | (show (_ → _) ∧ _; refine ⟨fun h => ?_, fun h => ?_⟩) | fail)
    refine' dq_cons rfl rfl rfl (fun σ hσ K kk => r_slHi hG rfl rfl rfl rfl rfl rfl rfl ⟨by omega, by omega⟩ kk) ?_
    repeat' (first | (show DQ _ _ _ _ _ _ _ _ _; first | refine ep2 ?_) | (show EL _ _ _ _ _ _ _ _ _; first | refine eqc ?_ | (refine ec ?_; intro i)) | (show (_ → _) ∧ _; refine ⟨fun h => ?_, fun h => ?_⟩) | fail)
    refine' dq_cons rfl rfl rfl (fun σ hσ K kk => r_slLoN (z := k + 1) hG rfl rfl rfl rfl rfl rfl rfl (by omega) kk) ?_
    repeat' (first | (show DQ _ _ _ _ _ _ _ _ _; first | refine ep2 ?_) | (show EL _ _ _ _ _ _ _ _ _; first | refine eqc ?_ | (refine ec ?_; intro i)) | (show (_ → _) ∧ _; refine ⟨fun h => ?_, fun h => ?_⟩) | fail)
    refine A1 (Cont.of rfl hs) rfl rfl rfl (fun K ke => ?_)
    refine aop_app0N (objs := fun j => if j = r then some (.cells ((rsP ps).map strT)) else none) (ys := (((rsP ps).drop 0).take k).map strT) hG rfl rfl rfl rfl rfl ⟨_, rfl⟩ rfl rfl (obj_row (by first | exact List.mem_cons_self | exact List.mem_cons_of_mem _ List.mem_cons_self | exact List.mem_cons_of_mem _ (List.mem_cons_of_mem _ List.mem_cons_self) | exact List.mem_cons_of_mem _ (List.mem_cons_of_mem _ (List.mem_cons_of_mem _ List.mem_cons_self)))) (src_row (by omega)) rfl (List.ne_nil_of_length_pos (by rw [List.length_map, List.length_take, List.length_drop]; omega)) (by simp only [A4, List.drop_zero, List.length_append, List.length_map, List.length_take, List.length_drop, List.length_cons, List.length_nil] <;> omega) rfl (fun r2 _ => ?_)
    refine ke _ _ ?_
    refine A1 (Cont.of rfl hs) rfl rfl rfl (fun K ke => ?_)
    refine Bm (objs := fun _ => none) hG rfl rfl rfl rfl rfl ⟨_, rfl⟩ rfl rfl rfl (fun i o h => by cases h) rfl rfl ?_
    refine ke _ _ ?_
    refine eqc ?_
    repeat' (first | (show AL _ _ _ _ _ _ _ _; first | refine so2 ?_ | (refine sa ?_; intro k)) | (show DL _ _ _ _ _ _ _; first | refine do2 ?_) | (show AW _ _ _ _ _ _; first | (show AW _ _ (.region _ _ _) _ _ _; refine sc0 ?_; intro O1) | (refine sc1 ?_; try intro Q1)) | (show (_ → _) ∧ _; refine ⟨fun h => ?_, fun h => ?_⟩) | fail)
    refine ret_on (L' := [(q, _), (r2, .cells _)]) (Ae rfl Ag) hs (.refl _) rfl ⟨r2, rfl, ?_⟩
    rw [hR1 _ (by omega)]
    refine congr (congrArg List.cons (congrArg (fun n => (q, Ob.cells [bT v, .sl 1 .no (((idsP ps).take k ++ (idsP ps).drop (k + 1)).map mT), .aref 1 r2 0 n none])) ?_)) (congrArg (fun x => [(r2, Ob.cells x)]) ?_)
    · simp only [A4, List.drop_zero, List.length_append, List.length_map, List.length_take, List.length_drop, List.length_cons, List.length_nil] <;> omega
    · rw [A4, List.drop_zero, List.drop_eq_nil_of_le (show (rsP ps).length ≤ k + 1 by omega)]; simp
  · skip
    refine Bh (m := 17) [8, 16] (Cont [(q, .cells [bT v, .sl 1 .no (((idsP ps).take k ++ (idsP ps).drop (k + 1)).map mT), .aref 1 r 0 ps.length none]), (r, .cells ((rsP ps).map strT))]) mix Y (by repeat (first | exact Sp.zero _ | apply Sp.succ)) ?_; intro O1 F1 Z1 Q2; repeat' (first | (show DQ _ _ _ _ _ _ _ _ _; first | refine ep2 ?_) | (show EL _ _ _ _ _ _ _ _ _; first | refine eqc ?_ | (refine ec ?_; intro i)) | (show (_ → _) ∧ _; refine ⟨fun h => ?_, fun h => ?_⟩) | fail)
    refine' dq_cons rfl rfl rfl (fun σ hσ K kk => r_slHi hG rfl rfl rfl rfl rfl rfl rfl ⟨by omega, by omega⟩ kk) ?_
    repeat' (first | (show DQ _ _ _ _ _ _ _ _ _; first | refine ep2 ?_) | (show EL _ _ _ _ _ _ _ _ _; first | refine eqc ?_ | (refine ec ?_; intro i)) | (show (_ → _) ∧ _; refine ⟨fun h => ?_, fun h => ?_⟩) | fail)
    refine' dq_cons rfl rfl rfl (fun σ hσ K kk => r_slLo (z := k + 1) hG rfl rfl rfl rfl rfl rfl rfl (by omega) kk) ?_
    repeat' (first | (show DQ _ _ _ _ _ _ _ _ _; first | refine ep2 ?_) | (show EL _ _ _ _ _ _ _ _ _; first | refine eqc ?_ | (refine ec ?_; intro i)) | (show (_ → _) ∧ _; refine ⟨fun h => ?_, fun h => ?_⟩) | fail)
    refine A1 (Cont.of rfl hs) rfl rfl rfl (fun K ke => ?_)
    refine aop_app0N (objs := fun j => if j = r then some (.cells ((rsP ps).map strT)) else none) (ys := (((rsP ps).drop 0).take k).map strT) hG rfl rfl rfl rfl rfl ⟨_, rfl⟩ rfl rfl (obj_row (by first | exact List.mem_cons_self | exact List.mem_cons_of_mem _ List.mem_cons_self | exact List.mem_cons_of_mem _ (List.mem_cons_of_mem _ List.mem_cons_self) | exact List.mem_cons_of_mem _ (List.mem_cons_of_mem _ (List.mem_cons_of_mem _ List.mem_cons_self)))) (src_row (by omega)) rfl (List.ne_nil_of_length_pos (by rw [List.length_map, List.length_take, List.length_drop]; omega)) (by simp only [A4, List.drop_zero, List.length_append, List.length_map, List.length_take, List.length_drop, List.length_cons, List.length_nil] <;> omega) rfl (fun r2 _ => ?_)
    refine ke _ _ ?_
    refine A1 (Cont.of rfl hs) rfl rfl rfl (fun K ke => ?_)
    refine aop_appL (n := 0) (objs := fun j => if j = r then some (.cells ((rsP ps).map strT)) else none) (ys := (((rsP ps).drop (k + 1)).take (ps.length - (k + 1))).map strT) hG rfl rfl rfl rfl rfl ⟨_, rfl⟩ rfl rfl ?_ rfl (obj_row (by first | exact List.mem_cons_self | exact List.mem_cons_of_mem _ List.mem_cons_self | exact List.mem_cons_of_mem _ (List.mem_cons_of_mem _ List.mem_cons_self) | exact List.mem_cons_of_mem _ (List.mem_cons_of_mem _ (List.mem_cons_of_mem _ List.mem_cons_self)))) (src_row (by omega)) rfl ?_ ?_ rfl (fun r3 _ => ?_)
    · simp only [A4, List.drop_zero, List.length_append, List.length_map, List.length_take, List.length_drop, List.length_cons, List.length_nil] <;> omega
    · exact enc_scal strT _
    · simp only [A4, List.drop_zero, List.length_append, List.length_map, List.length_take, List.length_drop, List.length_cons, List.length_nil] <;> omega
    refine ke _ _ ?_
    refine eqc ?_
    repeat' (first | (show AL _ _ _ _ _ _ _ _; first | refine so2 ?_ | (refine sa ?_; intro k)) | (show DL _ _ _ _ _ _ _; first | refine do2 ?_) | (show AW _ _ _ _ _ _; first | (show AW _ _ (.region _ _ _) _ _ _; refine sc0 ?_; intro O1) | (refine sc1 ?_; try intro Q1)) | (show (_ → _) ∧ _; refine ⟨fun h => ?_, fun h => ?_⟩) | fail)
    refine ret_on (L' := [(q, _), (r3, .cells _)]) (Ae rfl Ag) hs (.refl _) rfl ⟨r3, rfl, ?_⟩
    rw [hR1 _ (by omega)]
    refine congr (congrArg List.cons (congrArg (fun n => (q, Ob.cells [bT v, .sl 1 .no (((idsP ps).take k ++ (idsP ps).drop (k + 1)).map mT), .aref 1 r3 0 n none])) ?_)) (congrArg (fun x => [(r3, Ob.cells x)]) ?_)
    · simp only [A4, List.drop_zero, List.length_append, List.length_map, List.length_take, List.length_drop, List.length_cons, List.length_nil] <;> omega
    · rw [htd, A4, A4, List.drop_zero, List.drop_zero]; simp
end Go.Proofs.Ythfgocinlbogeaa
namespace Go.Ts
set_option linter.unusedSimpArgs false
set_option linter.unusedVariables false
section
variable {P : Program} {G : Nat → Option TI} {N : Nat} {σ σ1 : St} {a : Env} {K : Env → St → Prop} {d : Tmp} {ty : TypeId} {pos : String} {af : Array Edge} {gd : Option (Nat × Bool)} {Q : Exit → Env → St → Prop} {α : Type}
variable {w w1 : World} {μ : Gh}
theorem append_grow_runC {t1 t2 ty : TypeId} {e e2 : Nat} {ie : TypeInfo} {base : Option Addr} {sLen sCap n : Nat} {vy z : Value} {old vs : Array Value}
    (u1 : ∀ w, (underlying t1).run P w = .ok (.slice e) w) (u2 : ∀ w, (underlying t2).run P w = .ok (.slice e2) w) (us : ∀ w, (sizeOf e).run P w = .ok ie.size w) (ui : ∀ w, (typeInfo e).run P w = .ok ie w) (uz : ∀ w, (zeroValue e).run P w = .ok z w)
    (hn : (Builtin.lenOf vy).run P w = .ok n w) (hlt : sCap < sLen + n) (hbound : sLen + n ≤ 4294967296) (hby : ie.bytes ≤ 4096) (hby0 : ie.bytes ≠ 0 ∨ True)
    (hold : (Builtin.firstCells ie.size sLen (.slice base sLen sCap)).run P w.drew = .ok old w.drew) (hv : (Builtin.firstCells ie.size n vy).run P w.drew = .ok vs w.drew) :
    ∃ newCap, sLen + n ≤ newCap ∧ newCap < 9223372036854775808 ∧ (Builtin.append_ #[t1, t2] ty #[.slice base sLen sCap, vy]).run P w =
      .ok (.slice (some ⟨w.heap.size, 0, none⟩) (sLen + n) newCap) (w.drew.alloc (.cells (old ++ vs ++ Builtin.zeroCells z.cells (newCap - (sLen + n))) e)) := by
  have hb1 : ¬ (Builtin.nextslicecap (sLen + n) sCap * ie.bytes > 2 ^ 48) := by
    have h1 := nextslicecap_le (sLen + n) sCap hlt
    have h2 : Builtin.nextslicecap (sLen + n) sCap * ie.bytes ≤ 8589935360 * 4096 := Nat.mul_le_mul (by omega) hby
    omega
  have hb2 : ¬ (((sLen + n : Nat) : Int) > IntKind.i64.max ∧ (False ∨ ie.bytes = 0)) := by
    intro ⟨h, _⟩
    have : IntKind.i64.max = 9223372036854775807 := by decide
    omega
  refine ⟨(Question.appendCap (sLen + n) sCap e).cut (w.tape w.drawn (.appendCap (sLen + n) sCap e)), by simp only [Question.cut]; omega, (by simp only [Question.cut]; have := Nat.mod_lt (w.tape w.drawn (.appendCap (sLen + n) sCap e)) (show 0 < 2 ^ 63 - (sLen + n) by omega); omega), ?_⟩
  have hnle : ¬ (sLen + n ≤ sCap) := by omega
  have hb3 : ¬ (281474976710656 < Builtin.nextslicecap (sLen + n) sCap * ie.bytes) := by omega
  have hb4 : ¬ (9223372036854775807 < (sLen : Int) + (n : Int) ∧ ie.bytes = 0) := by intro ⟨h, _⟩; omega
  have hfo : (Question.appendCap (sLen + n) sCap e).forced = false := rfl
  simp only [Builtin.append_]
  simp [u1, u2, us, ui, uz, hn, hnle, hold, hv, hb3, hb4, hfo, newRow]
theorem aop_app0D (hG : Fits P G) {o : Oper} {x y : Operand} {t1 t2 : TypeId} {e : Nat} {i1 i2 ie : TI} {ys : List T} {ty : T} {K : Env → St → Prop}
    (ho : o.op = .call { callee := .builtin .append, args := #[x, y], argTypes := #[t1, t2] }) (h1 : G t1 = some i1) (h1d : i1.d = .slice e) (he : G e = some ie) (h2 : G t2 = some i2) (h2d : ∃ e2, i2.d = .slice e2)
    (hx : Ad a x = some (.sl ie.size .full [])) (hy : Ad a y = some ty) {objs : Nat → Option Ob} (hob : ∀ i o, objs i = some o → (i, o) ∈ σ.L) (hsrc : srcOf objs ie.size ty = some ys)
    (hsz : (Nat.blt 0 ie.size && Nat.ble ie.bytes 4096) = true) (hys : ys ≠ []) (hlen : ys.length ≤ 4294967296) (hd : Ai N o.dst = true)
    (k : ∀ i' c, ys.length ≤ c → c < 9223372036854775808 → K (put a o.dst (.aref ie.size i' 0 ys.length (some c))) (σ.new i' (.cells (flat ys ++ zerosT ie (c - ys.length))))) : AOp P N o a σ K := by
  intro av w μ hi hr next Qc hn
  simp only [Bool.and_eq_true] at hsz
  have hsz0 : 0 < ie.size := by have := hsz.1; simpa [Nat.blt_eq] using this
  have hby := Nat.le_of_ble_eq_true hsz.2
  have hypos : 0 < ys.length := List.length_pos_iff.2 hys
  obtain ⟨e2, h2d⟩ := h2d
  have us := g_size (P := P) (w := w) hG he
  have rx := Al hr hx
  have ry := Al hr hy
  obtain ⟨s1, s2, vs, s3, s4, s5⟩ := srcOf_run (P := P) hi hob ry hsrc
  have hexec : (execOp av.eval o).run P w = ((Builtin.append_ #[t1, t2] o.type #[av.eval x, av.eval y]).run P w).andThen fun v w' => .ok (.value v) w' := by
    simp [execOp, ho, resolve, invoke, builtin]
  have hfl := flat_length s2
  obtain ⟨i', f1', f2', f3', f4'⟩ := hi.pick
  generalize hvx : av.eval x = vx at rx
  have hnil : ∃ base, vx = .slice base 0 0 := by
    generalize hq : T.sl ie.size Own.full [] = q at rx
    cases rx with
    | slnil => exact ⟨none, rfl⟩
    | slz ad => exact ⟨some ad, rfl⟩
    | sl b p cap sz own xs n hn0 hc ho hs h0 r0 =>
      injection hq with e1 e2 e3
      subst e1; subst e2; subst e3
      obtain rfl : n = 0 := by simpa using hn0.symm
      have ho' : p + 0 * ie.size = p + cap * ie.size := ho
      have hc0 : cap = 0 := by
        rcases Nat.eq_zero_or_pos cap with h | h
        · exact h
        · have := Nat.mul_pos h hsz0; omega
      exact ⟨_, by rw [hc0]⟩
    | _ => cases hq
  obtain ⟨base, hb⟩ := hnil
  clear rx
  obtain ⟨info, ui, hib, his⟩ := g_info (P := P) (w := w) hG he
  have ui' : ∀ w, (typeInfo e).run P w = .ok info w := by
    intro w2
    obtain ⟨i0, d0, k1, k2, _⟩ := hG e ie he
    have e1 : (typeInfo e).run P w = .ok i0 w := by simp [typeInfo, k1]
    rw [ui] at e1; injection e1 with e1; subst e1
    simp [typeInfo, k1]
  obtain ⟨z, uz, rz, hz1, hz2⟩ := g_zero (P := P) (w := w) (μ := μ) (σ := σ) hG he
  have uz' : ∀ w, (zeroValue e).run P w = .ok z w := by
    intro w2
    obtain ⟨i0, d0, k1, k2, k3, k4, k5, k6, _⟩ := hG e ie he
    have e1 : ∀ w, (zeroValue e).run P w = .ok (if ie.d.agg then .agg (ie.zero.map Z.value).toArray else (ie.zero.headD .b).value) w := by
      intro w; simp only [zeroValue, typeInfo, Sem.run_bind, run_program, Result.andThen_ok, k1, k6, Sem.run_pure]
    rw [e1] at uz; injection uz with uz; rw [e1, uz]
  have u1' : ∀ w, (underlying t1).run P w = .ok (.slice e) w := by
    intro w2; obtain ⟨d, u, f⟩ := Aq (P := P) (w := w2) hG h1; rw [h1d] at f; obtain rfl := A0 f; exact u
  have u2' : ∀ w, (underlying t2).run P w = .ok (.slice e2) w := by
    intro w2; obtain ⟨d, u, f⟩ := Aq (P := P) (w := w2) hG h2; rw [h2d] at f; obtain rfl := A0 f; exact u
  obtain ⟨newCap, hnc, hnc2, hrun⟩ := append_grow_runC (P := P) (ty := o.type) (ie := info) (base := base) (sLen := 0) (sCap := 0) (vy := av.eval y) (old := #[]) (vs := vs) (n := ys.length) u1' u2' (fun w => by rw [his]; exact g_size hG he) ui' uz' s1 (by omega) (by omega) (by omega) (.inr trivial)
    (by
      cases base with
      | none => rfl
      | some ad => simpa [Builtin.firstCells] using run_loadCells (P := P) w.drew ad 0 (fun _ => undef) (fun j hj => absurd hj (by omega))) (by rw [his]; exact s3 w.drew rfl)
  simp only [Nat.zero_add, Array.empty_append] at hrun hnc
  have ev1 : Ev w μ σ w.drew μ σ := ev_same rfl rfl rfl rfl
  have hi1 : Inv w.drew μ σ := hi.ev_heap rfl ev1
  generalize hrest : Builtin.zeroCells z.cells (newCap - ys.length) = rest at hrun
  have hrs : rest.size = (newCap - ys.length) * ie.size := by rw [← hrest, zeroCells_size, hz1]
  have hcs : (vs ++ rest).size = newCap * ie.size := by
    rw [Array.size_append, s4, hfl, hrs, ← Nat.add_mul]
    congr 1; omega
  obtain ⟨z', hz', hz1', hz2', hz3'⟩ := zeros_rel (P := P) hG he hsz0 (newCap - ys.length)
  have hzz : z' = z := by have := (hz' w).symm.trans (uz' w); injection this
  subst hzz
  obtain ⟨ev3, i3⟩ := new_step hi1 (vs ++ rest) e f1' f2' f3' f4' (ts := flat ys ++ zerosT ie (newCap - ys.length)) (by rw [List.length_append, hz2', hfl, hcs, ← Nat.add_mul]; exact Nat.le_of_eq (by congr 1; omega)) (fun j t u hj hu => by
    rw [Nat.zero_add] at hu
    refine Rel.ev (w := w) ?_ ev1
    rcases Nat.lt_or_ge j (flat ys).length with h4 | h4
    · rw [List.getElem?_append_left h4] at hj
      rw [Array.getElem?_append_left (by omega)] at hu
      exact s5 _ t u hj hu
    · rw [List.getElem?_append_right h4] at hj
      rw [Array.getElem?_append_right (by omega), s4] at hu
      refine hz3' w μ σ (j - (flat ys).length) t u hj ?_
      rw [← hu, ← hrest]; unfold Builtin.zeroCells; rw [hz1'])
  have ev := ev1.trans ev3
  unfold Oper.wp
  rw [hexec, hvx, hb, hrun]
  refine hn _ _ _ _ _ ev i3 ((hr.ev ev).put hd (Rel.aref i' w.heap.size 0 0 ys.length newCap ie.size (some newCap) (A6 _ _) hnc (fun x hx => by injection hx) ⟨_, e, _, Bl w.drew _, by rw [hcs]; simp⟩)) (k i' newCap hnc hnc2)
end
end Go.Ts
set_option maxHeartbeats 4000000
namespace Go.Proofs.Ythfgocinlbogeaa
open Go.Ts
set_option linter.unusedSimpArgs false
set_option linter.unusedVariables false
attribute [local irreducible] Go.Ts.AW Go.Ts.AOps Go.Ts.AL Go.Ts.AOp Go.Ts.ACalls Go.Ts.DL Go.Ts.DQ Go.Ts.DQ0 Go.Ts.EL
theorem flat_enc (b : List UInt8) : flat (b.map bT) = b.map bT := by
  induction b with
  | nil => rfl
  | cons x b ih => rw [List.map_cons, flat_cons, ih]; rfl
theorem clone_c {b : List UInt8} (hne : b ≠ []) (hl : b.length ≤ 1000000) : OnL Try.prog 44 [sT b] [] (fun u L => ∃ (i c : Nat) (l' : List UInt8), l'.length = c ∧ l'.take b.length = b ∧ b.length ≤ c ∧ c < 9223372036854775808 ∧ u = .aref 1 i 0 b.length (some c) ∧ L = [(i, .cells (l'.map bT))]) := by
  intro off
  refine Af (N := 8) (rs := [.tmp 2]) hG Try.func44 rfl rfl rfl rfl rfl ?_
  repeat' (first | (show AL _ _ _ _ _ _ _ _; first | refine so2 ?_ | (refine sa ?_; intro k)) | (show AW _ _ _ _ _ _; first | (show AW _ _ (.region _ _ _) _ _ _; refine sc0 ?_; intro O1) | (refine sc1 ?_; try intro Q1)) | (show (_ → _) ∧ _; refine ⟨fun h => ?_, fun h => ?_⟩) | fail)
  have hq : Av G (fun _ => none) (Ad (put (put (envOf 0 [sT b]) (some 2) (constT (Value.slice none 0 0))) (some 3) (sT b))) (.binOp .eql 22 (.tmp 3) (.const (.slice none 0 0)) 22) = some (.bool false) := by
    cases b with
    | nil => exact absurd rfl hne
    | cons x b => rfl
  refine Ac rfl (op_q hG hq rfl rfl ?_)
  repeat' (first | (show AL _ _ _ _ _ _ _ _; (fail_if_success show AL _ _ _ _ _ (⟨_, .call ⟨.builtin .append, _, _⟩, _, _, _, _⟩ :: _) _ _); first | refine so2 ?_ | (refine sa ?_; intro k)) | (show AW _ _ _ _ _ _; first | (show AW _ _ (.region _ _ _) _ _ _; refine sc0 ?_; intro O1) | (refine sc1 ?_; try intro Q1)) | (show (_ → _) ∧ _; refine ⟨fun h => ?_, fun h => ?_⟩) | fail)
  refine Ac rfl ?_
  refine aop_app0D (objs := fun _ => none) (ys := b.map bT) hG rfl rfl rfl rfl rfl ⟨_, rfl⟩ rfl rfl (fun i o h => by cases h) rfl rfl (List.ne_nil_of_length_pos (by rw [List.length_map]; exact List.length_pos_iff.2 hne)) (by simp; omega) rfl (fun i' c hc hc2 => ?_)
  repeat' (first | (show AL _ _ _ _ _ _ _ _; first | refine so2 ?_ | (refine sa ?_; intro k)) | (show AW _ _ _ _ _ _; first | (show AW _ _ (.region _ _ _) _ _ _; refine sc0 ?_; intro O1) | (refine sc1 ?_; try intro Q1)) | (show (_ → _) ∧ _; refine ⟨fun h => ?_, fun h => ?_⟩) | fail)
  have h1 : (b.map bT).length = b.length := List.length_map ..
  rw [h1] at hc
  refine Az (Ae rfl Ag) (.refl _) (.refl _) (.refl _) rfl ⟨i', c, b ++ List.replicate (c - b.length) 0, by simp; omega, by simp, hc, hc2, by rw [h1]; rfl, ?_⟩
  show [(i', Ob.cells (flat (b.map bT) ++ zerosT _ (c - (b.map bT).length)))] = _
  rw [h1, List.map_append, flat_enc]
  have hz : ∀ n : Nat, (List.replicate n (T.int .u8 0)).flatMap T.cells = (List.replicate n (0 : UInt8)).map bT := fun n => by
    induction n with
    | zero => rfl
    | succ n ih => rw [List.replicate_succ, List.flatMap_cons, ih, List.replicate_succ, List.map_cons]; rfl
  rw [← hz]; rfl
theorem arena_Get_v (v : UInt8) (l : List SB) (at' : List (Nat × Int)) {id j : Nat} (hk : khas at' id = true) (hj : klook at' id = ((j : Nat) : Int)) (hjl : j < l.length) (ht : (l.getD j default).taken = true) (hne0 : (l.getD j default).bs ≠ []) (hb : (l.getD j default).bs.length ≤ 1000000) (p ri m : Nat) :
    OnL Try.prog 41 [.ptr p 0, .int .u64 (id : Int)] (arL v l at' p ri m) (fun u L => ∃ (i c : Nat) (l' : List UInt8), l'.length = c ∧ l'.take (l.getD j default).bs.length = (l.getD j default).bs ∧ (l.getD j default).bs.length ≤ c ∧ c < 9223372036854775808 ∧ u = .tup [.aref 1 i 0 (l.getD j default).bs.length (some c), .int .i64 0] ∧ L = (i, .cells (l'.map bT)) :: arL v l at' p ri m) := by
  have hf := And.intro (arena_find_is v l at' hk hj p ri m) (List.Perm.of_eq (List.append_nil (arL v l at' p ri m)).symm)
  have hc := clone_c hne0 hb
  have hne : l ≠ [] := by intro h; subst h; simp at hjl
  have hrec : recT (l.getD j default) = sT (l.getD j default).bs := by unfold recT; rw [ht]; rfl
  rw [arL_ne hne] at hf ⊢
  intro off
  refine Af (N := 26) (rs := [.tmp 4, .tmp 5]) hG Try.func41 rfl rfl rfl rfl rfl ?_
  repeat' (first | (show AL _ _ _ _ _ _ _ _; (fail_if_success show AL _ _ _ _ _ (⟨_, .call ⟨.value (.func 44), _, _⟩, _, _, _, _⟩ :: _) _ _); first | (refine Ac Y ?_; (first | (show AOp _ _ ⟨_, .indexAddr _ _ _, _, _, _, _⟩ _ _ _; refine Ak (sz := 4) hG Y Y Y Y Y Y Y (by omega) ?_) | (show AOp _ _ ⟨_, .load _ _, _, _, _, _⟩ _ _ _; first | refine Ab 0 sbT hG Y Y Y Y Y (by omega) Y ?_ | refine Aa 0 sbT hG Y Y Y Y Y (by omega) Y ?_ | refine Ab 1 sbT hG Y Y Y Y Y (by omega) Y ?_ | refine Aa 1 sbT hG Y Y Y Y Y (by omega) Y ?_ | refine Ab 2 sbT hG Y Y Y Y Y (by omega) Y ?_ | refine Aa 2 sbT hG Y Y Y Y Y (by omega) Y ?_ | refine Ab 3 sbT hG Y Y Y Y Y (by omega) Y ?_ | refine Aa 3 sbT hG Y Y Y Y Y (by omega) Y ?_))) | refine so2 ?_ | (refine Ac Y (r_onS Y Y Y Y hf.1 hf.2 ?_))) | (show AW _ _ _ _ _ _; first | (show AW _ _ (.region _ _ _) _ _ _; refine sc0 ?_; intro O1) | (refine sc1 ?_; try intro Q1)) | (show (_ → _) ∧ _; refine ⟨fun h => ?_, fun h => ?_⟩) | fail)
  refine al_slot 24 rfl (u := sT (l.getD j default).bs) (.eq hrec) ?_
  refine al_on hc rfl rfl rfl rfl rfl rfl .nil ?_
  rintro u L' ⟨i, c, l', h1, h2, h3, h4, rfl, rfl⟩
  repeat' (first | (show AL _ _ _ _ _ _ _ _; first | (refine Ac Y ?_; (first | (show AOp _ _ ⟨_, .indexAddr _ _ _, _, _, _, _⟩ _ _ _; refine Ak (sz := 4) hG Y Y Y Y Y Y Y (by omega) ?_) | (show AOp _ _ ⟨_, .load _ _, _, _, _, _⟩ _ _ _; first | refine Ab 0 sbT hG Y Y Y Y Y (by omega) Y ?_ | refine Aa 0 sbT hG Y Y Y Y Y (by omega) Y ?_ | refine Ab 1 sbT hG Y Y Y Y Y (by omega) Y ?_ | refine Aa 1 sbT hG Y Y Y Y Y (by omega) Y ?_ | refine Ab 2 sbT hG Y Y Y Y Y (by omega) Y ?_ | refine Aa 2 sbT hG Y Y Y Y Y (by omega) Y ?_ | refine Ab 3 sbT hG Y Y Y Y Y (by omega) Y ?_ | refine Aa 3 sbT hG Y Y Y Y Y (by omega) Y ?_))) | refine so2 ?_) | (show AW _ _ _ _ _ _; first | (show AW _ _ (.region _ _ _) _ _ _; refine sc0 ?_; intro O1) | (refine sc1 ?_; try intro Q1)) | (show (_ → _) ∧ _; refine ⟨fun h => ?_, fun h => ?_⟩) | fail)
  exact Az (Ae rfl (Ae rfl Ag)) (.refl _) (.refl _) (.refl _) rfl ⟨i, c, l', h1, h2, h3, h4, rfl, rfl⟩
theorem law_SpoilD {l : List UInt8} {n c : Nat} (hl : l.length = c) (hc : c < 9223372036854775808) (i : Nat) : OnL Try.prog 26 [.aref 1 i 0 n (some c)] [(i, .cells (l.map bT))] (fun u L => ∃ l' : List UInt8, l'.length = c ∧ u = .tup [] ∧ L = [(i, .cells (l'.map bT))]) := by
  intro off
  refine Af (N := 17) (rs := []) hG Try.func26 rfl rfl rfl rfl rfl ?_
  repeat' (first | (show AL _ _ _ _ _ _ _ _; first | (refine Ac Y ?_; (first | (show AOp _ _ ⟨_, .load _ _, _, _, _, _⟩ _ _ _; first | refine r_ldB (f := bT) 0 hG Y Y Y Y (by first | omega | (simp; omega)) Y ?_ | refine r_ldB (f := bT) 1 hG Y Y Y Y (by first | omega | (simp; omega)) Y ?_ | refine r_ldB (f := bT) 2 hG Y Y Y Y (by first | omega | (simp; omega)) Y ?_) | refine r_slC hG Y Y Y Y Y Y Y (by first | omega | (simp; omega)) ?_)) | refine so2 ?_) | (show AW _ _ _ _ _ _; first | (show AW _ _ (.region _ _ _) _ _ _; refine sc0 ?_; intro O1) | (refine sc1 ?_; try intro Q1)) | (show (_ → _) ∧ _; refine ⟨fun h => ?_, fun h => ?_⟩) | fail)
  refine A5 (X := SpX c) (fun x => [(2, .aref 1 i 0 c (some c)), (3, .int .i64 (x.i : Int))]) (fun x => ⟨[(i, .cells (x.l.map bT))], [], off, none⟩) (fun x => c - x.i) ⟨0, l, Nat.zero_le _, hl⟩ (by repeat (first | exact .nil _ | refine .cons rfl ?_)) (.refl _) ?_
  rintro ⟨q, l, hi, hl⟩
  dsimp only
  by_cases hq : q < c
  · repeat' (first | (show AL _ _ _ _ _ _ _ _; (fail_if_success show AL _ _ _ _ _ (⟨_, .store _ _ _, _, _, _, _⟩ :: _) _ _); first | (refine Ac Y ?_; (first | (show AOp _ _ ⟨_, .load _ _, _, _, _, _⟩ _ _ _; first | refine r_ldB (f := bT) 0 hG Y Y Y Y (by first | omega | (simp; omega)) Y ?_ | refine r_ldB (f := bT) 1 hG Y Y Y Y (by first | omega | (simp; omega)) Y ?_ | refine r_ldB (f := bT) 2 hG Y Y Y Y (by first | omega | (simp; omega)) Y ?_) | refine r_slC hG Y Y Y Y Y Y Y (by first | omega | (simp; omega)) ?_)) | refine so2 ?_) | (show AW _ _ _ _ _ _; first | (show AW _ _ (.region _ _ _) _ _ _; refine sc0 ?_; intro O1) | (refine sc1 ?_; try intro Q1)) | (show (_ → _) ∧ _; refine ⟨fun h => ?_, fun h => ?_⟩) | fail)
    refine Ac rfl (r_stB 0 (l := l) (0x5a : UInt8) hG rfl rfl rfl bT_cells bT_sc rfl rfl (by omega) ?_)
    repeat' (first | (show AL _ _ _ _ _ _ _ _; first | (refine Ac Y ?_; (first | (show AOp _ _ ⟨_, .load _ _, _, _, _, _⟩ _ _ _; first | refine r_ldB (f := bT) 0 hG Y Y Y Y (by first | omega | (simp; omega)) Y ?_ | refine r_ldB (f := bT) 1 hG Y Y Y Y (by first | omega | (simp; omega)) Y ?_ | refine r_ldB (f := bT) 2 hG Y Y Y Y (by first | omega | (simp; omega)) Y ?_) | refine r_slC hG Y Y Y Y Y Y Y (by first | omega | (simp; omega)) ?_)) | refine so2 ?_) | (show AW _ _ _ _ _ _; first | (show AW _ _ (.region _ _ _) _ _ _; refine sc0 ?_; intro O1) | (refine sc1 ?_; try intro Q1)) | (show (_ → _) ∧ _; refine ⟨fun h => ?_, fun h => ?_⟩) | fail)
    exact ⟨⟨q + 1, l.set q 0x5a, by omega, by simpa using hl⟩, by dsimp only; omega, (by repeat (first | exact .nil _ | refine .cons rfl ?_)), .refl _⟩
  · repeat' (first | (show AL _ _ _ _ _ _ _ _; first | (refine Ac Y ?_; (first | (show AOp _ _ ⟨_, .load _ _, _, _, _, _⟩ _ _ _; first | refine r_ldB (f := bT) 0 hG Y Y Y Y (by first | omega | (simp; omega)) Y ?_ | refine r_ldB (f := bT) 1 hG Y Y Y Y (by first | omega | (simp; omega)) Y ?_ | refine r_ldB (f := bT) 2 hG Y Y Y Y (by first | omega | (simp; omega)) Y ?_) | refine r_slC hG Y Y Y Y Y Y Y (by first | omega | (simp; omega)) ?_)) | refine so2 ?_) | (show AW _ _ _ _ _ _; first | (show AW _ _ (.region _ _ _) _ _ _; refine sc0 ?_; intro O1) | (refine sc1 ?_; try intro Q1)) | (show (_ → _) ∧ _; refine ⟨fun h => ?_, fun h => ?_⟩) | fail)
    refine Be ?_
    exact ret_onLE Ag (.refl _) (.refl _) (.refl _) rfl ⟨l, hl, rfl, rfl⟩
theorem arena_find_nil (id : Nat) : Ts.Pure Try.prog 65 [.nilp, .int .u64 (id : Int)] (.tup [.int .i64 0, .int .i64 1]) := by
  intro off
  refine Af (N := 22) (rs := [.tmp 4, .tmp 5]) hG Try.func65 rfl rfl rfl rfl rfl ?_
  repeat' (first | (show AL _ _ _ _ _ _ _ _; first | refine so2 ?_) | (show AW _ _ _ _ _ _; first | (show AW _ _ (.region _ _ _) _ _ _; refine sc0 ?_; intro O1) | (refine sc1 ?_; try intro Q1)) | (show (_ → _) ∧ _; refine ⟨fun h => ?_, fun h => ?_⟩) | fail)
  exact Bj (Ae rfl (Ae rfl Ag)) (.refl _) rfl
theorem arena_Get_nil (id : Nat) : Ts.Pure Try.prog 41 [.nilp, .int .u64 (id : Int)] (.tup [.nilsl, .int .i64 1]) := by
  have h := arena_find_nil id
  intro off
  refine Af (N := 26) (rs := [.tmp 4, .tmp 5]) hG Try.func41 rfl rfl rfl rfl rfl ?_
  repeat' (first | (show AL _ _ _ _ _ _ _ _; first | refine so2 ?_ | refine sp Y Y Y Y Y Y (by apply h <;> exact sd) ?_) | (show AW _ _ _ _ _ _; first | (show AW _ _ (.region _ _ _) _ _ _; refine sc0 ?_; intro O1) | (refine sc1 ?_; try intro Q1)) | (show (_ → _) ∧ _; refine ⟨fun h => ?_, fun h => ?_⟩) | fail)
  exact Bj (Ae rfl (Ae rfl Ag)) (.refl _) rfl
theorem arena_Put_nil (id : Nat) (b : List UInt8) : Ts.Pure Try.prog 32 [.nilp, .int .u64 (id : Int), sT b] (.int .i64 1) := by
  intro off
  refine Af (N := 73) (rs := [.tmp 6]) hG Try.func32 rfl rfl rfl rfl rfl ?_
  repeat' (first | (show AL _ _ _ _ _ _ _ _; first | refine so2 ?_) | (show DL _ _ _ _ _ _ _; first | refine do2 ?_) | (show AW _ _ _ _ _ _; first | (show AW _ _ (.region _ _ _) _ _ _; refine sc0 ?_; intro O1) | (refine sc1 ?_; try intro Q1)) | (show (_ → _) ∧ _; refine ⟨fun h => ?_, fun h => ?_⟩) | fail)
  exact Bj (Ae rfl Ag) (.refl _) rfl
theorem arena_Drop_nil (id : Nat) : Ts.Pure Try.prog 37 [.nilp, .int .u64 (id : Int)] (.int .i64 1) := by
  have h := arena_find_nil id
  intro off
  refine Af (N := 36) (rs := [.tmp 4]) hG Try.func37 rfl rfl rfl rfl rfl ?_
  repeat' (first | (show AL _ _ _ _ _ _ _ _; first | refine so2 ?_ | refine sp Y Y Y Y Y Y (by apply h <;> exact sd) ?_) | (show DL _ _ _ _ _ _ _; first | refine do2 ?_ | refine dp Y Y Y Y Y Y Y (by apply h <;> exact sd) ?_) | (show AW _ _ _ _ _ _; first | (show AW _ _ (.region _ _ _) _ _ _; refine sc0 ?_; intro O1) | (refine sc1 ?_; try intro Q1)) | (show (_ → _) ∧ _; refine ⟨fun h => ?_, fun h => ?_⟩) | fail)
  exact Bj (Ae rfl Ag) (.refl _) rfl
theorem arena_Size_nil : Ts.Pure Try.prog 35 [.nilp] (.int .i64 0) := by
  intro off
  refine Af (N := 24) (rs := [.tmp 2]) hG Try.func35 rfl rfl rfl rfl rfl ?_
  repeat' (first | (show AL _ _ _ _ _ _ _ _; first | refine so2 ?_ | (refine sb ?_; intro i)) | (show AW _ _ _ _ _ _; first | (show AW _ _ (.region _ _ _) _ _ _; refine sc0 ?_; intro O1) | (refine sc1 ?_; try intro Q1)) | (show (_ → _) ∧ _; refine ⟨fun h => ?_, fun h => ?_⟩) | fail)
  exact Bj (Ae rfl Ag) (.refl _) rfl
theorem arena_IDs_nil : Ts.Pure Try.prog 33 [.nilp] .nilsl := by
  intro off
  refine Af (N := 28) (rs := [.tmp 2]) hG Try.func33 rfl rfl rfl rfl rfl ?_
  repeat' (first | (show AL _ _ _ _ _ _ _ _; first | refine so2 ?_ | (refine sa ?_; intro k) | (refine sb ?_; intro i)) | (show AW _ _ _ _ _ _; first | (show AW _ _ (.region _ _ _) _ _ _; refine sc0 ?_; intro O1) | (refine sc1 ?_; try intro Q1)) | (show (_ → _) ∧ _; refine ⟨fun h => ?_, fun h => ?_⟩) | fail)
  exact Bj (Ae rfl Ag) (.refl _) rfl
theorem arena_Bytes_nil : Ts.Pure Try.prog 34 [.nilp] .nilsl := by
  have h := arena_IDs_nil
  intro off
  refine Af (N := 32) (rs := [.tmp 2]) hG Try.func34 rfl rfl rfl rfl rfl ?_
  repeat' (first | (show AL _ _ _ _ _ _ _ _; first | refine so2 ?_ | refine sp Y Y Y Y Y Y (by apply h <;> exact sd) ?_) | (show DL _ _ _ _ _ _ _; first | refine do2 ?_ | refine dp Y Y Y Y Y Y Y (by apply h <;> exact sd) ?_) | (show AW _ _ _ _ _ _; first | (show AW _ _ (.region _ _ _) _ _ _; refine sc0 ?_; intro O1) | (refine sc1 ?_; try intro Q1)) | (show (_ → _) ∧ _; refine ⟨fun h => ?_, fun h => ?_⟩) | fail)
  refine A5 (X := Unit) (fun _ => [(3, .nilsl), (7, .nilsl), (8, .int .i64 0), (9, .int .i64 0)]) (fun _ => ⟨[], [], off, none⟩) (fun _ => 0) () (by repeat (first | exact .nil _ | refine .cons rfl ?_)) (.refl _) ?_
  rintro ⟨⟩
  repeat' (first | (show AL _ _ _ _ _ _ _ _; first | refine so2 ?_) | (show DL _ _ _ _ _ _ _; first | refine do2 ?_) | (show AW _ _ _ _ _ _; first | (show AW _ _ (.region _ _ _) _ _ _; refine sc0 ?_; intro O1) | (refine sc1 ?_; try intro Q1)) | (show (_ → _) ∧ _; refine ⟨fun h => ?_, fun h => ?_⟩) | fail)
  exact Bj (Ae rfl Ag) (.refl _) rfl
theorem arena_Copy_nil : Ts.Pure Try.prog 39 [.nilp] .nilp := by
  intro off
  refine Af (N := 56) (rs := [.tmp 2]) hG Try.func39 rfl rfl rfl rfl rfl ?_
  repeat' (first | (show AL _ _ _ _ _ _ _ _; first | refine so2 ?_ | (refine sa ?_; intro k) | (refine sb ?_; intro i)) | (show DL _ _ _ _ _ _ _; first | refine do2 ?_) | (show AW _ _ _ _ _ _; first | (show AW _ _ (.region _ _ _) _ _ _; refine sc0 ?_; intro O1) | (refine sc1 ?_; try intro Q1)) | (show (_ → _) ∧ _; refine ⟨fun h => ?_, fun h => ?_⟩) | fail)
  exact Bj (Ae rfl Ag) (.refl _) rfl
end Go.Proofs.Ythfgocinlbogeaa
namespace Go.Proofs.Ythfgocinlbogeaa
open Go.Ts
set_option linter.unusedSimpArgs false
set_option linter.unusedVariables false
theorem glook_isSome (ps : List PB) (id : Nat) : (glook ps id).isSome = true ↔ id ∈ idsP ps := by
  induction ps with
  | nil => simp [glook, idsP]
  | cons p r ih =>
    rw [glook, idsP, List.map_cons, List.mem_cons]
    by_cases e : id = p.1
    · simp [e]
    · rw [if_neg e, ih]; simp [e, idsP]
theorem glook_mem : ∀ {ps : List PB}, ps.Pairwise (fun a b => a.1 < b.1) → ∀ p ∈ ps, glook ps p.1 = some p.2
  | [], _, p, h => by cases h
  | q :: r, hp, p, h => by
    rw [List.pairwise_cons] at hp
    rcases List.mem_cons.1 h with e | e
    · rw [e, glook, if_pos rfl]
    · have := hp.1 p e
      rw [glook, if_neg (by omega)]
      exact glook_mem hp.2 p e
section
variable {A : Nat → Option (List UInt8)} {l : List SB} {at' : List (Nat × Int)} {ps : List PB}
theorem two_mem (h2 : Rf A ps) {p : PB} (hp : p ∈ ps) : A p.1 = some p.2 := by rw [← h2.a]; exact glook_mem h2.up p hp
theorem two_ids (h1 : ArOK A l at') (h2 : Rf A ps) : idsA l = idsP ps := by
  refine upn_ext (ids_up h1.wf) (List.pairwise_map.2 h2.up) fun id => ?_
  rw [ar_ids h1, ← h2.a, glook_isSome]
theorem two_rec (h1 : ArOK A l at') (h2 : Rf A ps) {p : PB} (hp : p ∈ ps) : recA l at' p.1 = p.2 := (ar_has h1 (two_mem h2 hp)).2.1
theorem two_len (h1 : ArOK A l at') (h2 : Rf A ps) : ps.length ≤ l.length := by
  rw [← ids_len, ← two_ids h1 h2]; exact idsA_len l
theorem two_lt (h1 : ArOK A l at') (h2 : Rf A ps) : ∀ p ∈ ps, p.1 < 18446744073709551616 := fun p hp =>
  idsA_lt l p.1 (by rw [two_ids h1 h2]; exact List.mem_map_of_mem hp)
theorem two_bl (h1 : ArOK A l at') (h2 : Rf A ps) : ∀ p ∈ ps, p.2.length ≤ 60000 := fun p hp => by
  obtain ⟨_, _, j, _, hj, hb⟩ := ar_has h1 (two_mem h2 hp)
  rw [← hb]; exact h1.sb _ (by simp [List.getD, hj])
theorem size_names (h : WFA l at') : sizeA l = ((namesOf l).map fun id => (recA l at' id).length).sum := by
  have hs : ∀ s ∈ l, s.taken = true → recA l at' s.id = s.bs := fun s hs ht => by
    obtain ⟨j, hj, rfl⟩ := List.mem_iff_getElem.1 hs
    have := (h.a j hj (by simpa [List.getD, hj] using ht)).2
    simp only [List.getD, List.getElem?_eq_getElem hj, Option.getD_some] at this
    unfold recA
    rw [this, Int.toNat_natCast]
    simp [List.getD, hj]
  have : ∀ l' : List SB, (∀ s ∈ l', s.taken = true → recA l at' s.id = s.bs) → sizeA l' = ((namesOf l').map fun id => (recA l at' id).length).sum := by
    intro l'
    unfold sizeA namesOf
    induction l' with
    | nil => intro _; rfl
    | cons s l' ih =>
      intro h
      have ih := ih fun x hx => h x (by simp [hx])
      rw [List.map_cons, List.sum_cons, ih]
      cases ht : s.taken with
      | true => rw [if_pos rfl]; simp [ht, h s (by simp) ht]
      | false => simp [ht]
  exact this l hs
theorem two_size (h1 : ArOK A l at') (h2 : Rf A ps) : sizeA l = sumP ps := by
  have hp : (namesOf l).Perm (idsP ps) := by
    rw [← two_ids h1 h2]; exact (srtL_spec _).1.symm
  rw [size_names h1.wf, (hp.map _).sum_nat]
  unfold sumP idsP
  rw [List.map_map]
  congr 1
  exact List.map_congr_left fun p hp => by simp only [Function.comp]; rw [two_rec h1 h2 hp]
theorem two_bytes (h1 : ArOK A l at') (h2 : Rf A ps) : bytesA l at' = bytesP ps := by
  unfold bytesA bytesP
  rw [two_ids h1 h2]
  have : ∀ (r : List PB) (out : List UInt8), (∀ p ∈ r, recA l at' p.1 = p.2) → (idsP r).foldl (stepB l at') out = r.foldl stepP out := by
    intro r
    induction r with
    | nil => intro out _; rfl
    | cons p r ih =>
      intro out h
      have e : stepB l at' out p.1 = stepP out p := by
        have := h p (by simp)
        unfold recA at this
        unfold stepB stepP; rw [this]
      rw [idsP, List.map_cons, List.foldl_cons, List.foldl_cons, e]
      exact ih _ fun x hx => h x (by simp [hx])
  exact this ps [] fun p hp => two_rec h1 h2 hp
end
theorem ar_copy {A : Nat → Option (List UInt8)} {l : List SB} {at' at2 : List (Nat × Int)} (h : ArOK A l at') (hn : KN at2) (he : ∀ k, khas at2 k = khas at' k ∧ klook at2 k = klook at' k) : ArOK A l at2 := by
  refine ⟨⟨fun j hj ht => ?_, fun id hk => ?_⟩, hn, fun id => ?_, h.sb⟩
  · rw [(he _).1, (he _).2]; exact h.wf.a j hj ht
  · rw [(he _).2]; exact h.wf.b id (by rw [← (he _).1]; exact hk)
  · rw [h.a, (he _).1]; unfold recA; rw [(he _).2]
theorem ar_nil : ArOK (fun _ => none) [] [] := ⟨wfa_nil, List.nodup_nil, fun id => by simp [khas, kfind], fun s h => by simp at h⟩
theorem rf_nil : Rf (fun _ => none) [] := ⟨.nil, fun _ => rfl⟩
end Go.Proofs.Ythfgocinlbogeaa
set_option maxHeartbeats 4000000
namespace Go.Ts
section
variable {P : Program} {G : Nat → Option TI} {N : Nat} {σ : St} {a : Env} {Q : Exit → Env → St → Prop} {d : Tmp} {ty : TypeId} {pos : String} {af : Array Edge} {gd : Option (Nat × Bool)}
variable {ops : Array Oper} {os : List Oper} {k : Nat} {f : Operand} {args : Array Operand} {tys : Array TypeId} {g : FuncId} {ts : List T} {r : T} {L0 Lf : List (Nat × Ob)}
theorem dl_onP {a' : Env} (h : OnL P g ts L0 (fun u L => u = r ∧ L = L0)) (ha' : Ay a (Ax ops ⟨some d, .call ⟨.value f, args, tys⟩, ty, pos, af, gd⟩) = a') (hg : Bb ops a' ⟨some d, .call ⟨.value f, args, tys⟩, ty, pos, af, gd⟩ = some true) (hf : Ad a' f = some (.fn (.func g) [])) (ha : argsT a' args.toList = some ts) (hd : Ai N (some d) = true) (hnx : σ.nx = none) (hL : σ.L.Perm (L0 ++ Lf))
    (k' : DL P N ops Q σ os (put a (some d) r)) : DL P N ops Q σ (⟨some d, .call ⟨.value f, args, tys⟩, ty, pos, af, gd⟩ :: os) a := by
  subst ha'
  exact Ap hg rfl (fun K kk => r_onS hf ha hd hnx h hL kk) k'
theorem r_onP {dd : Option Tmp} {K : Env → St → Prop} {us caps : List T} {R : T → List (Nat × Ob) → Prop} (h : OnL P g us L0 R) (hf : Ad a f = some (.fn (.func g) caps)) (ha : argsT a args.toList = some ts) (hu : ts ++ caps = us) (hd : Ai N dd = true) (hnx : σ.nx = none) (hL : σ.L.Perm (L0 ++ Lf))
    (k : ∀ u L', R u L' → K (put a dd u) { σ with L := Lf ++ L' }) : AOp P N ⟨dd, .call ⟨.value f, args, tys⟩, ty, pos, af, gd⟩ a σ K := by
  subst hu
  have hc : ∀ {K' : T → St → Prop}, (∀ u L', R u L' → K' u { σ with L := Lf ++ L' }) → ACalls P g (ts ++ caps) σ K' := fun {K'} k => by
    refine ACalls.conv (R := fun u σ' => ∃ L', R u L' ∧ σ' = { σ with L := L' ++ Lf }) (h.calls hnx hL fun u L' hR => ⟨L', hR, rfl⟩) ?_
    rintro u σ1 ⟨L', hR, rfl⟩
    exact (Conv.g (perm_step (σ := { σ with L := L' ++ Lf }) List.perm_append_comm)).cr (k u L' hR)
  cases dd with
  | none => exact op_callN rfl hf ha rfl (hc k)
  | some d => exact op_call rfl hf ha rfl hd (hc k)
end
end Go.Ts
namespace Go.Proofs.Ythfgocinlbogeaa
open Go.Ts
set_option linter.unusedSimpArgs false
set_option linter.unusedVariables false
attribute [local irreducible] Go.Ts.AW Go.Ts.AOps Go.Ts.AL Go.Ts.AOp Go.Ts.ACalls Go.Ts.DL Go.Ts.DQ Go.Ts.DQ0 Go.Ts.EL
structure SameX1 (a : List Nat) where
  i : Nat
  hi : i ≤ a.length
theorem ids_same (a : List Nat) (hl : a.length ≤ 1000000) : Ts.Pure Try.prog 66 [.sl 1 .no (a.map mT), .sl 1 .no (a.map mT)] (.bool true) := by
  intro off
  refine Af (N := 26) (rs := [.tmp 4]) hG Try.func66 rfl rfl rfl rfl rfl ?_
  repeat' (first | (show AL _ _ _ _ _ _ _ _; first | refine so2 ?_) | (show DL _ _ _ _ _ _ _; first | refine do2 ?_) | (show AW _ _ _ _ _ _; first | (show AW _ _ (.region _ _ _) _ _ _; refine sc0 ?_; intro O1) | (refine sc1 ?_; try intro Q1)) | (show (_ → _) ∧ _; refine ⟨fun h => ?_, fun h => ?_⟩) | fail)
  refine A5 (X := SameX1 a) (fun x => [(0, .sl 1 .no (a.map mT)), (1, .sl 1 .no (a.map mT)), (5, .int .i64 (x.i : Int))]) (fun x => ⟨[], [], off, none⟩) (fun x => a.length - x.i) ⟨0, Nat.zero_le _⟩ (by repeat (first | exact .nil _ | refine .cons rfl ?_)) (.refl _) ?_
  rintro ⟨i, hi⟩
  dsimp only
  by_cases hib : i < a.length
  · repeat' (first | (show AL _ _ _ _ _ _ _ _; first | refine so2 ?_) | (show DL _ _ _ _ _ _ _; first | refine do2 ?_) | (show AW _ _ _ _ _ _; first | (show AW _ _ (.region _ _ _) _ _ _; refine sc0 ?_; intro O1) | (refine sc1 ?_; try intro Q1)) | (show (_ → _) ∧ _; refine ⟨fun h => ?_, fun h => ?_⟩) | fail)
    refine ⟨⟨i + 1, by omega⟩, by dsimp only; omega, (by repeat (first | exact .nil _ | refine .cons rfl ?_)), .refl _⟩
  · repeat' (first | (show AL _ _ _ _ _ _ _ _; first | refine so2 ?_) | (show DL _ _ _ _ _ _ _; first | refine do2 ?_) | (show AW _ _ _ _ _ _; first | (show AW _ _ (.region _ _ _) _ _ _; refine sc0 ?_; intro O1) | (refine sc1 ?_; try intro Q1)) | (show (_ → _) ∧ _; refine ⟨fun h => ?_, fun h => ?_⟩) | fail)
    exact Bj (Ae rfl Ag) (.refl _) rfl
theorem comm3 {α : Type} (x : α) (y z : List α) : (x :: (y ++ z)).Perm (z ++ (x :: y)) := List.perm_append_comm (l₁ := x :: y) (l₂ := z)
structure SameX2 (ps : List PB) where
  i : Nat
  hi : i ≤ ps.length
set_option maxHeartbeats 9000000 in
theorem law_same {v : UInt8} {A : Nat → Option (List UInt8)} {l : List SB} {at' : List (Nat × Int)} {ps : List PB} (h1 : ArOK A l at') (h2 : Rf A ps) (hne : ∀ id b, A id = some b → b ≠ []) (hl : l.length ≤ 255) {id : Nat} (hid : id < 18446744073709551616) (p ri m q r : Nat) :
    OnL Try.prog 40 [.ptr p 0, .ptr q 0, .int .u64 (id : Int)] ((q, .cells [bT v, .sl 1 .no ((idsP ps).map mT), rcT (rsP ps) r]) :: (rcR (rsP ps) r ++ arL v l at' p ri m)) (fun u L => u = .bool true ∧ L = (q, .cells [bT v, .sl 1 .no ((idsP ps).map mT), rcT (rsP ps) r]) :: (rcR (rsP ps) r ++ arL v l at' p ri m)) := by
  have e1 := two_ids h1 h2
  have e2 := two_size h1 h2
  have e3 := two_bytes h1 h2
  have hpl := two_len h1 h2
  have hlt := two_lt h1 h2
  have hbl := two_bl h1 h2
  have hsb : ∀ s ∈ l, s.bs.length ≤ 1000000 := fun s hs => Nat.le_trans (h1.sb s hs) (by decide)
  have cA := comm3 (q, Ob.cells [bT v, .sl 1 .no ((idsP ps).map mT), rcT (rsP ps) r]) (rcR (rsP ps) r) (arL v l at' p ri m)
  have cR : ((q, Ob.cells [bT v, .sl 1 .no ((idsP ps).map mT), rcT (rsP ps) r]) :: (rcR (rsP ps) r ++ arL v l at' p ri m)).Perm (rfL v ps q r ++ arL v l at' p ri m) := List.Perm.refl _
  have hI := And.intro (arena_IDs v l at' hl p ri m) cA
  have hZ := And.intro (arena_Size v l at' hl hsb p ri m) cA
  have hB := And.intro (arena_Bytes v l at' hl h1.sb (ids_where h1.wf) p ri m) cA
  have hZ2 := And.intro (d_Size v ps (by omega) hbl q r) cR
  have hB2 := And.intro (d_Bytes v ps (by omega) hbl hlt q r) cR
  have hS := ids_same (idsP ps) (by rw [ids_len]; omega)
  have hby := bytesP_len ps [] hbl
  have hsz := sumP_le ps hbl
  rw [e1] at hI
  rw [e2] at hZ
  rw [e3] at hB
  unfold bytesP at hB hB2
  generalize ps.foldl stepP [] = by' at *
  generalize sumP ps = sz at *
  rw [List.length_nil] at hby
  intro off
  refine Af (N := 103) (rs := [.tmp 6]) hG Try.func40 rfl rfl rfl rfl rfl ?_
  repeat' (first | (show AL _ _ _ _ _ _ _ _; first | refine so2 ?_ | (refine Ac Y (r_onS Y Y Y Y hI.1 hI.2 ?_)) | (refine Ac Y (r_onS Y Y Y Y hZ.1 hZ.2 ?_)) | (refine Ac Y (r_onS Y Y Y Y hB.1 hB.2 ?_)) | (refine Ac Y (r_onS Y Y Y Y hZ2.1 hZ2.2 ?_)) | (refine Ac Y (r_onS Y Y Y Y hB2.1 hB2.2 ?_)) | refine sp Y Y Y Y Y Y (by apply hS <;> exact sd) ?_) | (show DL _ _ _ _ _ _ _; first | refine do2 ?_ | refine dl_onP hI.1 Y Y Y Y Y Y hI.2 ?_ | refine dl_onP hZ.1 Y Y Y Y Y Y hZ.2 ?_ | refine dl_onP hB.1 Y Y Y Y Y Y hB.2 ?_ | refine dl_onP hZ2.1 Y Y Y Y Y Y hZ2.2 ?_ | refine dl_onP hB2.1 Y Y Y Y Y Y hB2.2 ?_ | refine dp Y Y Y Y Y Y Y (by apply hS <;> exact sd) ?_) | (show AW _ _ _ _ _ _; first | (show AW _ _ (.region _ _ _) _ _ _; refine sc0 ?_; intro O1) | (refine sc1 ?_; try intro Q1)) | (show (_ → _) ∧ _; refine ⟨fun h => ?_, fun h => ?_⟩) | fail)
  refine A5 (X := SameX2 ps) (fun x => [(0, .ptr p 0), (1, .ptr q 0), (2, .int .u64 (id : Int)), (7, .bool (decide (id ∈ (idsP ps).take x.i))), (8, .int .i64 (x.i : Int))]) (fun x => ⟨(q, .cells [bT v, .sl 1 .no ((idsP ps).map mT), rcT (rsP ps) r]) :: (rcR (rsP ps) r ++ arL v l at' p ri m), [], off, none⟩) (fun x => ps.length - x.i) ⟨0, Nat.zero_le _⟩ (.cons rfl (.cons rfl (.cons rfl (.consW rfl (.eq (by simp; rfl)) (.cons rfl (.nil _)))))) (.refl _) ?_
  clear hI hZ hB hZ2 hB2 hS hby hsz e1 e2 e3 cR
  rintro ⟨i, hi⟩
  dsimp only
  have hil0 := ids_len ps
  by_cases hil : i < ps.length
  · have hrn := rs_ne (show 0 < ps.length by omega)
    have hrl := rs_len ps
    have hpm : ps.getD i (0, []) ∈ ps := by simp [List.getD, hil]
    have hAi := two_mem h2 hpm
    have hgi := ids_get ps hil
    have hgr := rs_get ps hil
    have hpid := hlt _ hpm
    have htk : decide (id ∈ (idsP ps).take (i + 1)) = (decide (id ∈ (idsP ps).take i) || decide ((idsP ps).getD i default = id)) := by
      rw [List.take_add_one]
      simp only [List.getElem?_eq_getElem (show i < (idsP ps).length by omega), Option.toList_some, List.mem_append, List.mem_singleton, List.getD, Option.getD_some, Bool.decide_or]
      congr 1
      exact decide_eq_decide.2 eq_comm
    generalize hpi : ps.getD i (0, []) = pi at *
    obtain ⟨pid, b⟩ := pi
    dsimp only at hgi hgr hAi hpid
    obtain ⟨hk, _, j, hj, hjl, hbj⟩ := ar_has h1 hAi
    obtain ⟨j', g1, _, g3, _⟩ := h1.wf.b pid hk
    obtain rfl : j' = j := by omega
    have hb0 := hne pid b hAi
    have hbb : b.length ≤ 60000 := hbl _ hpm
    have hG' := arena_Get_v v l at' hk hj hjl g3 (by rw [hbj]; exact hb0) (by rw [hbj]; omega) p ri m
    rw [hbj] at hG'
    have eT := rcT_ne (i := r) hrn
    have eR := rcR_ne (i := r) hrn
    rw [hrl] at eT
    rw [eT, eR] at cA ⊢
    repeat' (first | (show AL _ _ _ _ _ _ _ _; first | refine so2 ?_) | (show DL _ _ _ _ _ _ _; first | refine do2 ?_) | (show AW _ _ _ _ _ _; first | (show AW _ _ (.region _ _ _) _ _ _; refine sc0 ?_; intro O1) | (refine sc1 ?_; try intro Q1)) | (show (_ → _) ∧ _; refine ⟨fun h => ?_, fun h => ?_⟩) | fail)
    rw [hgi]
    refine Ac rfl (r_onP hG' rfl rfl rfl rfl rfl cA ?_)
    rintro u L' ⟨iw, c, lw, w1, w2, w3, w4, rfl, rfl⟩
    repeat' (first | (show AL _ _ _ _ _ _ _ _; first | refine so2 ?_) | (show DL _ _ _ _ _ _ _; first | refine do2 ?_) | (show AW _ _ _ _ _ _; first | (show AW _ _ (.region _ _ _) _ _ _; refine sc0 ?_; intro O1) | (refine sc1 ?_; try intro Q1)) | (show (_ → _) ∧ _; refine ⟨fun h => ?_, fun h => ?_⟩) | fail)
    refine' Ap rfl rfl (fun K kk => r_tostrL 2 (l := lw) hG rfl rfl rfl rfl rfl rfl rfl rfl (by omega) rfl kk) ?_
    rw [w2]
    repeat' (first | (show AL _ _ _ _ _ _ _ _; first | refine so2 ?_) | (show DL _ _ _ _ _ _ _; first | refine do2 ?_) | (show AW _ _ _ _ _ _; first | (show AW _ _ (.region _ _ _) _ _ _; refine sc0 ?_; intro O1) | (refine sc1 ?_; try intro Q1)) | (show (_ → _) ∧ _; refine ⟨fun h => ?_, fun h => ?_⟩) | fail)
    refine' Ap rfl rfl (fun K kk => r_ldB 1 (f := strT) (l := rsP ps) hG rfl rfl rfl rfl (by omega) rfl kk) ?_
    rw [hgr]
    repeat' (first | (show AL _ _ _ _ _ _ _ _; first | refine so2 ?_) | (show DL _ _ _ _ _ _ _; first | refine do2 ?_) | (show AW _ _ _ _ _ _; first | (show AW _ _ (.region _ _ _) _ _ _; refine sc0 ?_; intro O1) | (refine sc1 ?_; try intro Q1)) | (show (_ → _) ∧ _; refine ⟨fun h => ?_, fun h => ?_⟩) | fail)
    refine al_on (law_SpoilD (l := lw) (n := b.length) (c := c) w1 w4 iw) rfl rfl rfl rfl rfl rfl hs ?_
    rintro u L' ⟨lw', w5, rfl, rfl⟩
    cases hin : decide (id ∈ (idsP ps).take i) with
    | true =>
      repeat' (first | (show AL _ _ _ _ _ _ _ _; first | refine so2 ?_) | (show DL _ _ _ _ _ _ _; first | refine do2 ?_) | (show AW _ _ _ _ _ _; first | (show AW _ _ (.region _ _ _) _ _ _; refine sc0 ?_; intro O1) | (refine sc1 ?_; try intro Q1)) | (show (_ → _) ∧ _; refine ⟨fun h => ?_, fun h => ?_⟩) | fail)
      exact ⟨⟨i + 1, by omega⟩, by dsimp only; omega, .cons rfl (.cons rfl (.cons rfl (.consW rfl (.eq (by dsimp only; rw [htk, hin]; rfl)) (.cons rfl (.nil _))))), Bc (R' := []) (List.sublist_cons_self _ _) (List.nil_sublist _)⟩
    | false =>
      repeat' (first | (show AL _ _ _ _ _ _ _ _; first | refine so2 ?_) | (show DL _ _ _ _ _ _ _; first | refine do2 ?_) | (show AW _ _ _ _ _ _; first | (show AW _ _ (.region _ _ _) _ _ _; refine sc0 ?_; intro O1) | (refine sc1 ?_; try intro Q1)) | (show (_ → _) ∧ _; refine ⟨fun h => ?_, fun h => ?_⟩) | fail)
      all_goals (refine ⟨⟨i + 1, by omega⟩, by dsimp only; omega, .cons rfl (.cons rfl (.cons rfl (.consW rfl (.eq (by dsimp only; rw [htk, hin, hgi]; simp; first | omega | rfl)) (.cons rfl (.nil _))))), Bc (R' := []) (List.sublist_cons_self _ _) (List.nil_sublist _)⟩)
  · obtain rfl : i = ps.length := by omega
    rw [List.take_of_length_le (by omega)]
    cases hA : A id with
    | some b =>
      have hin : decide (id ∈ idsP ps) = true := by
        rw [decide_eq_true_eq, ← glook_isSome, h2.a, hA]; rfl
      rw [hin]
      obtain ⟨hk, _, j, hj, hjl, hbj⟩ := ar_has h1 hA
      obtain ⟨j', g1, _, g3, _⟩ := h1.wf.b id hk
      obtain rfl : j' = j := by omega
      have hb0 := hne id b hA
      have hbb : b.length ≤ 60000 := by rw [← hbj]; exact h1.sb _ (by simp [List.getD, hjl])
      have hG' := arena_Get_v v l at' hk hj hjl g3 (by rw [hbj]; exact hb0) (by rw [hbj]; omega) p ri m
      rw [hbj] at hG'
      repeat' (first | (show AL _ _ _ _ _ _ _ _; first | refine so2 ?_) | (show DL _ _ _ _ _ _ _; first | refine do2 ?_) | (show AW _ _ _ _ _ _; first | (show AW _ _ (.region _ _ _) _ _ _; refine sc0 ?_; intro O1) | (refine sc1 ?_; try intro Q1)) | (show (_ → _) ∧ _; refine ⟨fun h => ?_, fun h => ?_⟩) | fail)
      refine Ac rfl (r_onP hG' rfl rfl rfl rfl rfl cA ?_)
      rintro u L' ⟨iw, c, lw, w1, w2, w3, w4, rfl, rfl⟩
      repeat' (first | (show AL _ _ _ _ _ _ _ _; first | refine so2 ?_) | (show DL _ _ _ _ _ _ _; first | refine do2 ?_) | (show AW _ _ _ _ _ _; first | (show AW _ _ (.region _ _ _) _ _ _; refine sc0 ?_; intro O1) | (refine sc1 ?_; try intro Q1)) | (show (_ → _) ∧ _; refine ⟨fun h => ?_, fun h => ?_⟩) | fail)
      exact Az (L0 := (q, Ob.cells [bT v, .sl 1 .no ((idsP ps).map mT), rcT (rsP ps) r]) :: rcR (rsP ps) r ++ arL v l at' p ri m) (Ae rfl Ag) (List.Sublist.append (List.Sublist.refl _) (List.sublist_cons_self _ _)) (.refl _) (.refl _) rfl ⟨rfl, rfl⟩
    | none =>
      have hin : decide (id ∈ idsP ps) = false := by
        rw [decide_eq_false_iff_not, ← glook_isSome, h2.a, hA]; simp
      rw [hin]
      have hG' := And.intro (arena_Get_no v l at' (ar_no h1 hA) p ri m) cA
      repeat' (first | (show AL _ _ _ _ _ _ _ _; first | refine so2 ?_ | (refine Ac Y (r_onS Y Y Y Y hG'.1 hG'.2 ?_))) | (show DL _ _ _ _ _ _ _; first | refine do2 ?_ | refine dl_onP hG'.1 Y Y Y Y Y Y hG'.2 ?_) | (show AW _ _ _ _ _ _; first | (show AW _ _ (.region _ _ _) _ _ _; refine sc0 ?_; intro O1) | (refine sc1 ?_; try intro Q1)) | (show (_ → _) ∧ _; refine ⟨fun h => ?_, fun h => ?_⟩) | fail)
      exact Az (Ae rfl Ag) (.refl _) (.refl _) (.refl _) rfl ⟨rfl, rfl⟩
end Go.Proofs.Ythfgocinlbogeaa
namespace Go.Ts
set_option linter.unusedSimpArgs false
set_option linter.unusedVariables false
structure OpA where
  kind : Int
  id : Nat
  b : List UInt8
  h1 : -9223372036854775808 ≤ kind
  h2 : kind ≤ 9223372036854775807
  hid : id < 18446744073709551616
instance : Inhabited OpA := ⟨⟨0, 0, [], by decide, by decide, by decide⟩⟩
def opT (o : OpA) : T := .agg [.int .i64 o.kind, .int .u64 (o.id : Int), sT o.b]
instance : Enc opT 3 := ⟨(fun s c h => by
  simp only [opT, T.cells] at h
  rcases List.mem_cons.1 h with rfl | h
  · rfl
  · rcases List.mem_cons.1 h with rfl | h
    · rfl
    · rcases List.mem_cons.1 h with rfl | h
      · rfl
      · cases h), fun s => rfl⟩
section
variable {G : Nat → Option TI}
theorem argTy_op {n e o1 o2 o3 ti tu tb u : Nat} {x : T} {ie ii iu ib iv : TI} (h : ArgTy G (n + 3) e x) (he : G e = some ie) (hed : ie.d = .struct [(o1, ti), (o2, tu), (o3, tb)]) (hi : G ti = some ii) (hid : ii.d = .int .i64) (hu : G tu = some iu) (hud : iu.d = .int .u64) (hb : G tb = some ib) (hbd : ib.d = .slice u) (hv : G u = some iv) (hvd : iv.d = .int .u8) (hvs : iv.size = 1) :
    ∃ o : OpA, x = opT o ∧ o.b.length ≤ bigLen := by
  obtain ⟨cs, rfl, p, q, rfl, h1, p2, q2, rfl, h2, p3, q3, rfl, h3, rfl⟩ := argTy_struct h he hed
  simp only [Ty, hi, hid] at h1
  simp only [Ty, hu, hud] at h2
  obtain ⟨v1, rfl, w1⟩ := h1
  obtain ⟨v2, rfl, w2⟩ := h2
  obtain ⟨b, rfl, hbl⟩ := ty_bytes h3 hb hbd hv hvd hvs
  obtain ⟨g1, g2⟩ := wf_i64 w1
  obtain ⟨g3, g4⟩ := wf_u64 w2
  refine ⟨⟨v1, v2.toNat, b, g1, g2, by omega⟩, ?_, hbl⟩
  have : ((v2.toNat : Nat) : Int) = v2 := by omega
  unfold opT
  rw [this]; rfl
theorem ops_of_ty {n e o1 o2 o3 ti tu tb u : Nat} {ie ii iu ib iv : TI} (he : G e = some ie) (hed : ie.d = .struct [(o1, ti), (o2, tu), (o3, tb)]) (hi : G ti = some ii) (hid : ii.d = .int .i64) (hu : G tu = some iu) (hud : iu.d = .int .u64) (hb : G tb = some ib) (hbd : ib.d = .slice u) (hv : G u = some iv) (hvd : iv.d = .int .u8) (hvs : iv.size = 1) :
    ∀ (xs : List T), (∀ y ∈ xs, Ty G (n + 3) e y.cells ∧ AggOK G e y) → ∃ l : List OpA, xs = l.map opT ∧ ∀ o ∈ l, o.b.length ≤ bigLen
  | [], _ => ⟨[], rfl, fun b h => absurd h List.not_mem_nil⟩
  | x :: xs, h => by
    obtain ⟨l, hl, hb'⟩ := ops_of_ty he hed hi hid hu hud hb hbd hv hvd hvs xs (fun y hy => h y (List.mem_cons_of_mem _ hy))
    obtain ⟨o, rfl, hbl⟩ := argTy_op (h x List.mem_cons_self) he hed hi hid hu hud hb hbd hv hvd hvs
    refine ⟨o :: l, by rw [hl]; rfl, fun c hc => ?_⟩
    rcases List.mem_cons.1 hc with rfl | hc
    · exact hbl
    · exact hb' c hc
theorem argTy_ops {n t e o1 o2 o3 ti tu tb u : Nat} {x : T} {it ie ii iu ib iv : TI} (h : ArgTy G (n + 4) t x) (ht : G t = some it) (htd : it.d = .slice e) (he : G e = some ie) (hes : ie.size = 3) (hed : ie.d = .struct [(o1, ti), (o2, tu), (o3, tb)]) (hi : G ti = some ii) (hid : ii.d = .int .i64) (hu : G tu = some iu) (hud : iu.d = .int .u64) (hb : G tb = some ib) (hbd : ib.d = .slice u) (hv : G u = some iv) (hvd : iv.d = .int .u8) (hvs : iv.size = 1) :
    ∃ l : List OpA, x = .sl 3 .no (l.map opT) ∧ l.length ≤ bigLen ∧ ∀ o ∈ l, o.b.length ≤ bigLen := by
  obtain ⟨xs, h1, h2, h3⟩ := ty_slice (argTy_cells h ht (by rw [htd]; rfl)) ht htd
  obtain ⟨l, rfl, hb'⟩ := ops_of_ty he hed hi hid hu hud hb hbd hv hvd hvs xs h3
  injection h1 with h1
  exact ⟨l, by rw [h1]; simp [sizeT, he, hes], by simpa using h2, hb'⟩
end
end Go.Ts
namespace Go.Proofs.Ythfgocinlbogeaa
open Go.Ts
theorem ops_arg {x : T} (tx : ArgTy G 6 64 x) : ∃ l : List OpA, x = .sl 3 .no (l.map opT) ∧ l.length ≤ bigLen ∧ ∀ o ∈ l, o.b.length ≤ bigLen := argTy_ops (n := 2) tx rfl rfl rfl rfl rfl rfl rfl rfl rfl rfl rfl rfl rfl rfl
end Go.Proofs.Ythfgocinlbogeaa
