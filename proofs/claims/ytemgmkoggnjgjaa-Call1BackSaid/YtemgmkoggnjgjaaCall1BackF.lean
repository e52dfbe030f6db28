/- Part of the proof of the law Call1Back: the texts Q2, Q3, Q4, Q5, Q6. No conditions. -/
import Derived.Test.YtemgmkoggnjgjaaCall1BackE
import Derived.KernelRfl
set_option linter.unusedSimpArgs false
set_option linter.unusedVariables false
namespace Go.Proofs.Ytemgmkoggnjgjaa
open Go.Ts Go.Sets
set_option linter.unusedSimpArgs false
set_option linter.unusedVariables false
attribute [local irreducible] Go.Ts.AW Go.Ts.AOps Go.Ts.AL Go.Ts.AOp Go.Ts.ACalls Go.Ts.DL Go.Ts.DQ Go.Ts.EL
structure CO where
  op : Nat
  kind : Nat
  id : Nat
  to : Nat
  off : Nat
  n : Nat
  df : UInt8
  ps : List PR
  d : List UInt8
  c : List UInt16
def zeroK : CO := ⟨0, 0, 0, 0, 0, 0, 0, [], [], []⟩
def CO.t (c : CO) : T := .agg [.int .i64 c.op, .int .i64 c.kind, .int .u64 c.id, .int .u64 c.to, .int .i64 c.off, .int .i64 c.n, bT c.df, .sl 2 .no (c.ps.map pT), cT [], cT [], cT [], sT c.d, cT c.c]
def DS (ds : List T) (c : CO) : Prop := ∃ Pp d cc, ds = [.int .i64 c.op, .int .i64 c.kind, .int .u64 c.id, .int .u64 c.to, .int .i64 c.off, .int .i64 c.n, bT c.df, Pp, .nilsl, .nilsl, .nilsl, d, cc] ∧ Wk Pp (.sl 2 .no (c.ps.map pT)) ∧ Wk d (sT c.d) ∧ Wk cc (cT c.c) ∧ (Pp.scalar && d.scalar && cc.scalar) = true
def zeroKC (op : Nat) : List T := [.int .i64 op, .int .i64 0, .int .u64 0, .int .u64 0, .int .i64 0, .int .i64 0, .int .u8 0, .nilsl, .nilsl, .nilsl, .nilsl, .nilsl, .nilsl]
structure S3 where
  df : UInt8
  ps : List PR
def rdS (r : RS) : S3 × RS := if r.e = 0 then (if (Bl r.b).e = 0 then (⟨(Bl r.b).df, (Bl r.b).ps⟩, ⟨r.b.drop (Bl r.b).n, 0⟩) else (⟨0, []⟩, ⟨r.b, (Bl r.b).e⟩)) else (⟨0, []⟩, r)
theorem rdN_len (r : RS) (m : Nat) : (rdN r m).2.b.length ≤ r.b.length := by
  unfold rdN; split
  · split
    · exact Nat.le_refl _
    · simp only [List.length_drop]; omega
  · exact Nat.le_refl _
theorem rdS_len (r : RS) : (rdS r).2.b.length ≤ r.b.length := by
  unfold rdS; split
  · split
    · simp only [List.length_drop]; omega
    · exact Nat.le_refl _
  · exact Nat.le_refl _
theorem rdN_lt (r : RS) (m : Nat) : (rdN r m).1 < 2 ^ (8 * m) := by
  unfold rdN; split
  · split
    · exact Nat.two_pow_pos _
    · rename_i h; exact beV_lt m _ (by rw [List.length_take]; omega)
  · exact Nat.two_pow_pos _
theorem a1_label {r : RS} {c0 c1 c2 c3 c4 c5 c8 c9 c10 c11 c12 : T} (hl : r.b.length ≤ 4294967296) :
    Mut2 Try.prog 40 [] r.cells [c0, c1, c2, c3, c4, c5, .int .u8 0, .nilsl, c8, c9, c10, c11, c12] (fun _ cs' ds' => cs' = (rdS r).2.cells ∧ ∃ Pp, ds' = [c0, c1, c2, c3, c4, c5, bT (rdS r).1.df, Pp, c8, c9, c10, c11, c12] ∧ Wk Pp (.sl 2 .no ((rdS r).1.ps.map pT)) ∧ Pp.scalar = true) := by
  intro off i j
  obtain ⟨b, e⟩ := r
  unfold RS.cells
  dsimp only at hl ⊢
  refine A5 (N := 29) (rs := []) hG Try.func40 rfl rfl rfl rfl rfl ?_
  by_cases he : e = 0
  · subst he
    have hc := lcode_Take_is (x := sT b) (Ak b) hl rfl
    have hsm := takeLab_small b
    have hh : rdS ⟨b, 0⟩ = (if (Bl b).e = 0 then (⟨(Bl b).df, (Bl b).ps⟩, ⟨b.drop (Bl b).n, 0⟩) else (⟨0, []⟩, ⟨b, (Bl b).e⟩)) := by rw [rdS, if_pos rfl]
    have hz : (Bl b).e ≠ 0 → (Bl b).df = 0 ∧ (Bl b).ps = [] ∧ (Bl b).n = 0 := fun h => by rw [takeLab_no h]; exact ⟨rfl, rfl, rfl⟩
    generalize Bl b = t at *
    obtain ⟨ta, tb, n, e⟩ := t
    dsimp only at *
    have ht := a1_takes (b := b) (e := 0) (e' := e) (n := n) (fun _ => hsm.2)
    by_cases h1 : e = 0
    · subst h1
      rw [if_pos rfl] at hh
      rw [hh]
      repeat' (first
    | ((show AL _ _ _ _ _ _ _ _; refine Ac Y ?_); (first
      | (show AOp _ _ ⟨_, .move _, _, _, _, _⟩ _ _ _; refine Ao hG Y Y ?_)
      | (show AOp _ _ ⟨_, .assign _, _, _, _, _⟩ _ _ _; refine A1 hG Y Y ?_)
      | (show AOp _ _ ⟨_, .binOp _ _ _ _ _, _, _, _, _⟩ _ _ _; first | refine Au hG Y Y Y Y Y (by omega) ?_ | refine As hG Y Y Y Y Y (by omega) ?_ | (refine Aq hG Y Y Y Y Y (fun h => ?_) (fun h => ?_)))
      | (show AOp _ _ ⟨_, .load _ _, _, _, _, _⟩ _ _ _; first | refine Aj 0 hG Y Y Y Y ?_ | refine Aj 1 hG Y Y Y Y ?_ | refine Aj 2 hG Y Y Y Y ?_ | refine Aj 3 hG Y Y Y Y ?_)
      | (show AOp _ _ ⟨_, .alloc _, _, _, _, _⟩ _ _ _; refine Bg hG Y Y (fun i => ?_))
      | (show AOp _ _ ⟨_, .store _ _ _, _, _, _, _⟩ _ _ _; first | refine Ax 0 hG Y Y Y Y Y Y Y ?_ | refine Ax 1 hG Y Y Y Y Y Y Y ?_ | refine Ax 2 hG Y Y Y Y Y Y Y ?_ | refine Ax 3 hG Y Y Y Y Y Y Y ?_)
      | (show AOp _ _ ⟨_, .call ⟨.value _, _, _⟩, _, _, _, _⟩ _ _ _; first | refine A7 Y Y Y Y Y (by apply hc <;> (first | assumption | omega | exact Ae _ _ | exact Ak _ | exact Am _ _ | exact Ay _ | rfl | (simp; omega))) ?_ | fail)
      | refine r_q hG Y Y Y ?_))
    | (show AL _ _ _ _ _ _ _ _; first | refine Bd Y Y Y ?_ | (refine Al ?_; first | show AW _ _ _ _ _ _ | show ∃ x', _ < _ ∧ _)) | (show AW _ _ (.seq _ _) _ _ _; refine Af ?_; intro Q1) | (show AW _ _ (.region _ _ false) _ _ _; refine Ad ?_; intro O1) | (show AW _ _ (.cond _ _ _) _ _ _; first | refine Ai Y ?_ | refine Ah Y ?_) | (show AW _ _ (.skip) _ _ _; refine Ag ?_; first | show AW _ _ _ _ _ _ | show ∃ x', _ < _ ∧ _) | (show AW _ _ (.ret) _ _ _; refine Av ?_; try dsimp only [Ar, Aa, Ap, Ab]) | fail)
      refine Ac rfl (r_mut rfl rfl rfl rfl rfl (List.Perm.swap _ _ _) ht (fun u9 cs' hr => ?_))
      subst hr
      repeat' (first
    | ((show AL _ _ _ _ _ _ _ _; refine Ac Y ?_); (first
      | (show AOp _ _ ⟨_, .move _, _, _, _, _⟩ _ _ _; refine Ao hG Y Y ?_)
      | (show AOp _ _ ⟨_, .assign _, _, _, _, _⟩ _ _ _; refine A1 hG Y Y ?_)
      | (show AOp _ _ ⟨_, .binOp _ _ _ _ _, _, _, _, _⟩ _ _ _; first | refine Au hG Y Y Y Y Y (by omega) ?_ | refine As hG Y Y Y Y Y (by omega) ?_ | (refine Aq hG Y Y Y Y Y (fun h => ?_) (fun h => ?_)))
      | (show AOp _ _ ⟨_, .load _ _, _, _, _, _⟩ _ _ _; first | refine Aj 0 hG Y Y Y Y ?_ | refine Aj 1 hG Y Y Y Y ?_ | refine Aj 2 hG Y Y Y Y ?_ | refine Aj 3 hG Y Y Y Y ?_)
      | (show AOp _ _ ⟨_, .alloc _, _, _, _, _⟩ _ _ _; refine Bg hG Y Y (fun i => ?_))
      | (show AOp _ _ ⟨_, .store _ _ _, _, _, _, _⟩ _ _ _; first | refine Ax 0 hG Y Y Y Y Y Y Y ?_ | refine Ax 1 hG Y Y Y Y Y Y Y ?_ | refine Ax 2 hG Y Y Y Y Y Y Y ?_ | refine Ax 3 hG Y Y Y Y Y Y Y ?_)
      | refine r_q hG Y Y Y ?_))
    | (show AL _ _ _ _ _ _ _ _; first | refine Bd Y Y Y ?_ | (refine Al ?_; first | show AW _ _ _ _ _ _ | show ∃ x', _ < _ ∧ _)) | (show AW _ _ (.seq _ _) _ _ _; refine Af ?_; intro Q1) | (show AW _ _ (.region _ _ false) _ _ _; refine Ad ?_; intro O1) | (show AW _ _ (.cond _ _ _) _ _ _; first | refine Ai Y ?_ | refine Ah Y ?_) | (show AW _ _ (.skip) _ _ _; refine Ag ?_; first | show AW _ _ _ _ _ _ | show ∃ x', _ < _ ∧ _) | (show AW _ _ (.ret) _ _ _; refine Av ?_; try dsimp only [Ar, Aa, Ap, Ab]) | fail)
      refine Al ?_
      exact B3 A3 (List.Sublist.cons_cons _ (.cons _ (List.Sublist.cons_cons _ .slnil))) (.refl _) rfl ⟨rfl, _, rfl, .refl _, rfl⟩
    · rw [if_neg h1] at hh
      rw [hh]
      obtain ⟨rfl, rfl, rfl⟩ := hz h1
      rw [takesF, if_pos h1] at ht
      repeat' (first
    | ((show AL _ _ _ _ _ _ _ _; refine Ac Y ?_); (first
      | (show AOp _ _ ⟨_, .move _, _, _, _, _⟩ _ _ _; refine Ao hG Y Y ?_)
      | (show AOp _ _ ⟨_, .assign _, _, _, _, _⟩ _ _ _; refine A1 hG Y Y ?_)
      | (show AOp _ _ ⟨_, .binOp _ _ _ _ _, _, _, _, _⟩ _ _ _; first | refine Au hG Y Y Y Y Y (by omega) ?_ | refine As hG Y Y Y Y Y (by omega) ?_ | (refine Aq hG Y Y Y Y Y (fun h => ?_) (fun h => ?_)))
      | (show AOp _ _ ⟨_, .load _ _, _, _, _, _⟩ _ _ _; first | refine Aj 0 hG Y Y Y Y ?_ | refine Aj 1 hG Y Y Y Y ?_ | refine Aj 2 hG Y Y Y Y ?_ | refine Aj 3 hG Y Y Y Y ?_)
      | (show AOp _ _ ⟨_, .alloc _, _, _, _, _⟩ _ _ _; refine Bg hG Y Y (fun i => ?_))
      | (show AOp _ _ ⟨_, .store _ _ _, _, _, _, _⟩ _ _ _; first | refine Ax 0 hG Y Y Y Y Y Y Y ?_ | refine Ax 1 hG Y Y Y Y Y Y Y ?_ | refine Ax 2 hG Y Y Y Y Y Y Y ?_ | refine Ax 3 hG Y Y Y Y Y Y Y ?_)
      | (show AOp _ _ ⟨_, .call ⟨.value _, _, _⟩, _, _, _, _⟩ _ _ _; first | refine A7 Y Y Y Y Y (by apply hc <;> (first | assumption | omega | exact Ae _ _ | exact Ak _ | exact Am _ _ | exact Ay _ | rfl | (simp; omega))) ?_ | fail)
      | refine r_q hG Y Y Y ?_))
    | (show AL _ _ _ _ _ _ _ _; first | refine Bd Y Y Y ?_ | (refine Al ?_; first | show AW _ _ _ _ _ _ | show ∃ x', _ < _ ∧ _)) | (show AW _ _ (.seq _ _) _ _ _; refine Af ?_; intro Q1) | (show AW _ _ (.region _ _ false) _ _ _; refine Ad ?_; intro O1) | (show AW _ _ (.cond _ _ _) _ _ _; first | refine Ai Y ?_ | refine Ah Y ?_) | (show AW _ _ (.skip) _ _ _; refine Ag ?_; first | show AW _ _ _ _ _ _ | show ∃ x', _ < _ ∧ _) | (show AW _ _ (.ret) _ _ _; refine Av ?_; try dsimp only [Ar, Aa, Ap, Ab]) | fail)
      refine Ac rfl (r_mut rfl rfl rfl rfl rfl (List.Perm.swap _ _ _) ht (fun u9 cs' hr => ?_))
      subst hr
      repeat' (first
    | ((show AL _ _ _ _ _ _ _ _; refine Ac Y ?_); (first
      | (show AOp _ _ ⟨_, .move _, _, _, _, _⟩ _ _ _; refine Ao hG Y Y ?_)
      | (show AOp _ _ ⟨_, .assign _, _, _, _, _⟩ _ _ _; refine A1 hG Y Y ?_)
      | (show AOp _ _ ⟨_, .binOp _ _ _ _ _, _, _, _, _⟩ _ _ _; first | refine Au hG Y Y Y Y Y (by omega) ?_ | refine As hG Y Y Y Y Y (by omega) ?_ | (refine Aq hG Y Y Y Y Y (fun h => ?_) (fun h => ?_)))
      | (show AOp _ _ ⟨_, .load _ _, _, _, _, _⟩ _ _ _; first | refine Aj 0 hG Y Y Y Y ?_ | refine Aj 1 hG Y Y Y Y ?_ | refine Aj 2 hG Y Y Y Y ?_ | refine Aj 3 hG Y Y Y Y ?_)
      | (show AOp _ _ ⟨_, .alloc _, _, _, _, _⟩ _ _ _; refine Bg hG Y Y (fun i => ?_))
      | (show AOp _ _ ⟨_, .store _ _ _, _, _, _, _⟩ _ _ _; first | refine Ax 0 hG Y Y Y Y Y Y Y ?_ | refine Ax 1 hG Y Y Y Y Y Y Y ?_ | refine Ax 2 hG Y Y Y Y Y Y Y ?_ | refine Ax 3 hG Y Y Y Y Y Y Y ?_)
      | refine r_q hG Y Y Y ?_))
    | (show AL _ _ _ _ _ _ _ _; first | refine Bd Y Y Y ?_ | (refine Al ?_; first | show AW _ _ _ _ _ _ | show ∃ x', _ < _ ∧ _)) | (show AW _ _ (.seq _ _) _ _ _; refine Af ?_; intro Q1) | (show AW _ _ (.region _ _ false) _ _ _; refine Ad ?_; intro O1) | (show AW _ _ (.cond _ _ _) _ _ _; first | refine Ai Y ?_ | refine Ah Y ?_) | (show AW _ _ (.skip) _ _ _; refine Ag ?_; first | show AW _ _ _ _ _ _ | show ∃ x', _ < _ ∧ _) | (show AW _ _ (.ret) _ _ _; refine Av ?_; try dsimp only [Ar, Aa, Ap, Ab]) | fail)
      refine Al ?_
      exact B3 A3 (List.Sublist.cons_cons _ (.cons _ (List.Sublist.cons_cons _ .slnil))) (.refl _) rfl ⟨rfl, _, rfl, .refl _, rfl⟩
  · have hh : rdS ⟨b, e⟩ = (⟨0, []⟩, ⟨b, e⟩) := by rw [rdS, if_neg he]
    rw [hh]
    repeat' (first
    | ((show AL _ _ _ _ _ _ _ _; refine Ac Y ?_); (first
      | (show AOp _ _ ⟨_, .move _, _, _, _, _⟩ _ _ _; refine Ao hG Y Y ?_)
      | (show AOp _ _ ⟨_, .assign _, _, _, _, _⟩ _ _ _; refine A1 hG Y Y ?_)
      | (show AOp _ _ ⟨_, .binOp _ _ _ _ _, _, _, _, _⟩ _ _ _; first | refine Au hG Y Y Y Y Y (by omega) ?_ | refine As hG Y Y Y Y Y (by omega) ?_ | (refine Aq hG Y Y Y Y Y (fun h => ?_) (fun h => ?_)))
      | (show AOp _ _ ⟨_, .load _ _, _, _, _, _⟩ _ _ _; first | refine Aj 0 hG Y Y Y Y ?_ | refine Aj 1 hG Y Y Y Y ?_ | refine Aj 2 hG Y Y Y Y ?_ | refine Aj 3 hG Y Y Y Y ?_)
      | (show AOp _ _ ⟨_, .alloc _, _, _, _, _⟩ _ _ _; refine Bg hG Y Y (fun i => ?_))
      | (show AOp _ _ ⟨_, .store _ _ _, _, _, _, _⟩ _ _ _; first | refine Ax 0 hG Y Y Y Y Y Y Y ?_ | refine Ax 1 hG Y Y Y Y Y Y Y ?_ | refine Ax 2 hG Y Y Y Y Y Y Y ?_ | refine Ax 3 hG Y Y Y Y Y Y Y ?_)
      | refine r_q hG Y Y Y ?_))
    | (show AL _ _ _ _ _ _ _ _; first | refine Bd Y Y Y ?_ | (refine Al ?_; first | show AW _ _ _ _ _ _ | show ∃ x', _ < _ ∧ _)) | (show AW _ _ (.seq _ _) _ _ _; refine Af ?_; intro Q1) | (show AW _ _ (.region _ _ false) _ _ _; refine Ad ?_; intro O1) | (show AW _ _ (.cond _ _ _) _ _ _; first | refine Ai Y ?_ | refine Ah Y ?_) | (show AW _ _ (.skip) _ _ _; refine Ag ?_; first | show AW _ _ _ _ _ _ | show ∃ x', _ < _ ∧ _) | (show AW _ _ (.ret) _ _ _; refine Av ?_; try dsimp only [Ar, Aa, Ap, Ab]) | fail)
    refine Ag ?_
    exact B3 A3 (List.Sublist.cons_cons _ (List.Sublist.cons_cons _ .slnil)) (.refl _) rfl ⟨rfl, _, rfl, .nil 2, rfl⟩
def freshF (op : Nat) (r : RS) : CO × RS :=
  if (rdN r 1).1 = 1 then (⟨op, (rdN r 1).1, (rdN (rdN r 1).2 8).1, 0, 0, (rdN (rdS (rdN (rdN r 1).2 8).2).2 2).1, (rdS (rdN (rdN r 1).2 8).2).1.df, (rdS (rdN (rdN r 1).2 8).2).1.ps, [], []⟩, (rdN (rdS (rdN (rdN r 1).2 8).2).2 2).2)
  else if (rdN r 1).1 = 2 then (⟨op, (rdN r 1).1, (rdN (rdN r 1).2 8).1, 0, 0, 0, (rdS (rdN (rdN r 1).2 8).2).1.df, (rdS (rdN (rdN r 1).2 8).2).1.ps, (rdB (rdS (rdN (rdN r 1).2 8).2).2).1, []⟩, (rdB (rdS (rdN (rdN r 1).2 8).2).2).2)
  else if (rdN r 1).1 = 3 then (⟨op, (rdN r 1).1, (rdN (rdN r 1).2 8).1, 0, 0, 0, (rdS (rdN (rdN r 1).2 8).2).1.df, (rdS (rdN (rdN r 1).2 8).2).1.ps, [], (rdC (rdS (rdN (rdN r 1).2 8).2).2).1⟩, (rdC (rdS (rdN (rdN r 1).2 8).2).2).2)
  else (⟨op, (rdN r 1).1, (rdN (rdN r 1).2 8).1, 0, 0, 0, (rdS (rdN (rdN r 1).2 8).2).1.df, (rdS (rdN (rdN r 1).2 8).2).1.ps, [], []⟩, (rdS (rdN (rdN r 1).2 8).2).2)
set_option maxHeartbeats 1000000 in
theorem a1_fresh {r : RS} {op : Nat} (hl : r.b.length ≤ 4294967296) :
    Mut2 Try.prog 41 [] r.cells (zeroKC op) (fun _ cs' ds' => cs' = (freshF op r).2.cells ∧ DS ds' (freshF op r).1) := by
  intro off i j
  unfold zeroKC
  refine A5 (N := 44) (rs := []) hG Try.func41 rfl rfl rfl rfl rfl ?_
  have l1 := rdN_len r 1
  have l2 := rdN_len (rdN r 1).2 8
  have l3 := rdS_len (rdN (rdN r 1).2 8).2
  have v1 : (rdN r 1).1 < 256 := rdN_lt r 1
  have v4 : (rdN (rdS (rdN (rdN r 1).2 8).2).2 2).1 < 65536 := rdN_lt _ 2
  repeat' (first
    | ((show AL _ _ _ _ _ _ _ _; refine Ac Y ?_); (first
      | (show AOp _ _ ⟨_, .move _, _, _, _, _⟩ _ _ _; refine Ao hG Y Y ?_)
      | (show AOp _ _ ⟨_, .assign _, _, _, _, _⟩ _ _ _; refine A1 hG Y Y ?_)
      | (show AOp _ _ ⟨_, .binOp _ _ _ _ _, _, _, _, _⟩ _ _ _; first | refine Au hG Y Y Y Y Y (by omega) ?_ | refine As hG Y Y Y Y Y (by omega) ?_ | (refine Aq hG Y Y Y Y Y (fun h => ?_) (fun h => ?_)))
      | (show AOp _ _ ⟨_, .load _ _, _, _, _, _⟩ _ _ _; first | refine Aj 0 hG Y Y Y Y ?_ | refine Aj 1 hG Y Y Y Y ?_ | refine Aj 2 hG Y Y Y Y ?_)
      | (show AOp _ _ ⟨_, .convert _ _ _, _, _, _, _⟩ _ _ _; first | refine A4 hG Y Y Y Y Y (by omega) ?_ | refine Bc hG Y Y Y Y Y ?_)
      | (show AOp _ _ ⟨_, .store _ _ _, _, _, _, _⟩ _ _ _; first | refine Ax 0 hG Y Y Y Y Y Y Y ?_ | refine Ax 1 hG Y Y Y Y Y Y Y ?_ | refine Ax 2 hG Y Y Y Y Y Y Y ?_)
      | refine r_q hG Y Y Y ?_))
    | (show AL _ _ _ _ _ _ _ _; first | refine Bd Y Y Y ?_ | (refine Al ?_; first | show AW _ _ _ _ _ _ | show ∃ x', _ < _ ∧ _)) | (show AW _ _ (.seq _ _) _ _ _; refine Af ?_; intro Q1) | (show AW _ _ (.region _ _ false) _ _ _; refine Ad ?_; intro O1) | (show AW _ _ (.cond _ _ _) _ _ _; first | refine Ai Y ?_ | refine Ah Y ?_) | (show AW _ _ (.skip) _ _ _; refine Ag ?_; first | show AW _ _ _ _ _ _ | show ∃ x', _ < _ ∧ _) | (show AW _ _ (.block _ _) _ _ _; refine Aw ?_; intro Q1) | (show AW _ _ (.ret) _ _ _; refine Av ?_; try dsimp only [Ar, Aa, Ap, Ab]) | fail)
  refine Ac rfl (r_mut rfl rfl rfl rfl rfl (.refl _) (a1_number (r := r) (n := 1) (m := 1) rfl (by omega) (by omega)) (fun u9 cs' hr => ?_))
  obtain ⟨rfl, rfl⟩ := hr
  repeat' (first
    | ((show AL _ _ _ _ _ _ _ _; refine Ac Y ?_); (first
      | (show AOp _ _ ⟨_, .move _, _, _, _, _⟩ _ _ _; refine Ao hG Y Y ?_)
      | (show AOp _ _ ⟨_, .assign _, _, _, _, _⟩ _ _ _; refine A1 hG Y Y ?_)
      | (show AOp _ _ ⟨_, .binOp _ _ _ _ _, _, _, _, _⟩ _ _ _; first | refine Au hG Y Y Y Y Y (by omega) ?_ | refine As hG Y Y Y Y Y (by omega) ?_ | (refine Aq hG Y Y Y Y Y (fun h => ?_) (fun h => ?_)))
      | (show AOp _ _ ⟨_, .load _ _, _, _, _, _⟩ _ _ _; first | refine Aj 0 hG Y Y Y Y ?_ | refine Aj 1 hG Y Y Y Y ?_ | refine Aj 2 hG Y Y Y Y ?_)
      | (show AOp _ _ ⟨_, .convert _ _ _, _, _, _, _⟩ _ _ _; first | refine A4 hG Y Y Y Y Y (by omega) ?_ | refine Bc hG Y Y Y Y Y ?_)
      | (show AOp _ _ ⟨_, .store _ _ _, _, _, _, _⟩ _ _ _; first | refine Ax 0 hG Y Y Y Y Y Y Y ?_ | refine Ax 1 hG Y Y Y Y Y Y Y ?_ | refine Ax 2 hG Y Y Y Y Y Y Y ?_)
      | refine r_q hG Y Y Y ?_))
    | (show AL _ _ _ _ _ _ _ _; first | refine Bd Y Y Y ?_ | (refine Al ?_; first | show AW _ _ _ _ _ _ | show ∃ x', _ < _ ∧ _)) | (show AW _ _ (.seq _ _) _ _ _; refine Af ?_; intro Q1) | (show AW _ _ (.region _ _ false) _ _ _; refine Ad ?_; intro O1) | (show AW _ _ (.cond _ _ _) _ _ _; first | refine Ai Y ?_ | refine Ah Y ?_) | (show AW _ _ (.skip) _ _ _; refine Ag ?_; first | show AW _ _ _ _ _ _ | show ∃ x', _ < _ ∧ _) | (show AW _ _ (.block _ _) _ _ _; refine Aw ?_; intro Q1) | (show AW _ _ (.ret) _ _ _; refine Av ?_; try dsimp only [Ar, Aa, Ap, Ab]) | fail)
  refine Ac rfl (r_mut rfl rfl rfl rfl rfl (.refl _) (a1_number (r := (rdN r 1).2) (n := 8) (m := 8) rfl (by omega) (by omega)) (fun u9 cs' hr => ?_))
  obtain ⟨rfl, rfl⟩ := hr
  repeat' (first
    | ((show AL _ _ _ _ _ _ _ _; refine Ac Y ?_); (first
      | (show AOp _ _ ⟨_, .move _, _, _, _, _⟩ _ _ _; refine Ao hG Y Y ?_)
      | (show AOp _ _ ⟨_, .assign _, _, _, _, _⟩ _ _ _; refine A1 hG Y Y ?_)
      | (show AOp _ _ ⟨_, .binOp _ _ _ _ _, _, _, _, _⟩ _ _ _; first | refine Au hG Y Y Y Y Y (by omega) ?_ | refine As hG Y Y Y Y Y (by omega) ?_ | (refine Aq hG Y Y Y Y Y (fun h => ?_) (fun h => ?_)))
      | (show AOp _ _ ⟨_, .load _ _, _, _, _, _⟩ _ _ _; first | refine Aj 0 hG Y Y Y Y ?_ | refine Aj 1 hG Y Y Y Y ?_ | refine Aj 2 hG Y Y Y Y ?_)
      | (show AOp _ _ ⟨_, .convert _ _ _, _, _, _, _⟩ _ _ _; first | refine A4 hG Y Y Y Y Y (by omega) ?_ | refine Bc hG Y Y Y Y Y ?_)
      | (show AOp _ _ ⟨_, .store _ _ _, _, _, _, _⟩ _ _ _; first | refine Ax 0 hG Y Y Y Y Y Y Y ?_ | refine Ax 1 hG Y Y Y Y Y Y Y ?_ | refine Ax 2 hG Y Y Y Y Y Y Y ?_)
      | refine r_q hG Y Y Y ?_))
    | (show AL _ _ _ _ _ _ _ _; first | refine Bd Y Y Y ?_ | (refine Al ?_; first | show AW _ _ _ _ _ _ | show ∃ x', _ < _ ∧ _)) | (show AW _ _ (.seq _ _) _ _ _; refine Af ?_; intro Q1) | (show AW _ _ (.region _ _ false) _ _ _; refine Ad ?_; intro O1) | (show AW _ _ (.cond _ _ _) _ _ _; first | refine Ai Y ?_ | refine Ah Y ?_) | (show AW _ _ (.skip) _ _ _; refine Ag ?_; first | show AW _ _ _ _ _ _ | show ∃ x', _ < _ ∧ _) | (show AW _ _ (.block _ _) _ _ _; refine Aw ?_; intro Q1) | (show AW _ _ (.ret) _ _ _; refine Av ?_; try dsimp only [Ar, Aa, Ap, Ab]) | fail)
  refine Ac rfl (r_mut2 rfl rfl rfl rfl rfl (.refl _) (a1_label (r := (rdN (rdN r 1).2 8).2) (by omega)) (fun u9 cs' ds' hr => ?_))
  obtain ⟨rfl, Pp, rfl, wP, hsc⟩ := hr
  by_cases k1 : (rdN r 1).1 = 1
  · have hF := by have := @freshF.eq_1 op r; rw [if_pos k1] at this; exact this
    repeat' (first
    | ((show AL _ _ _ _ _ _ _ _; refine Ac Y ?_); (first
      | (show AOp _ _ ⟨_, .move _, _, _, _, _⟩ _ _ _; refine Ao hG Y Y ?_)
      | (show AOp _ _ ⟨_, .assign _, _, _, _, _⟩ _ _ _; refine A1 hG Y Y ?_)
      | (show AOp _ _ ⟨_, .binOp _ _ _ _ _, _, _, _, _⟩ _ _ _; first | refine Au hG Y Y Y Y Y (by omega) ?_ | refine As hG Y Y Y Y Y (by omega) ?_ | (refine Aq hG Y Y Y Y Y (fun h => ?_) (fun h => ?_)))
      | (show AOp _ _ ⟨_, .load _ _, _, _, _, _⟩ _ _ _; first | refine Aj 0 hG Y Y Y Y ?_ | refine Aj 1 hG Y Y Y Y ?_ | refine Aj 2 hG Y Y Y Y ?_)
      | (show AOp _ _ ⟨_, .convert _ _ _, _, _, _, _⟩ _ _ _; first | refine A4 hG Y Y Y Y Y (by omega) ?_ | refine Bc hG Y Y Y Y Y ?_)
      | (show AOp _ _ ⟨_, .store _ _ _, _, _, _, _⟩ _ _ _; first | refine Ax 0 hG Y Y Y Y Y Y Y ?_ | refine Ax 1 hG Y Y Y Y Y Y Y ?_ | refine Ax 2 hG Y Y Y Y Y Y Y ?_)
      | refine r_q hG Y Y Y ?_))
    | (show AL _ _ _ _ _ _ _ _; first | refine Bd Y Y Y ?_ | (refine Al ?_; first | show AW _ _ _ _ _ _ | show ∃ x', _ < _ ∧ _)) | (show AW _ _ (.seq _ _) _ _ _; refine Af ?_; intro Q1) | (show AW _ _ (.region _ _ false) _ _ _; refine Ad ?_; intro O1) | (show AW _ _ (.cond _ _ _) _ _ _; first | refine Ai Y ?_ | refine Ah Y ?_) | (show AW _ _ (.skip) _ _ _; refine Ag ?_; first | show AW _ _ _ _ _ _ | show ∃ x', _ < _ ∧ _) | (show AW _ _ (.block _ _) _ _ _; refine Aw ?_; intro Q1) | (show AW _ _ (.ret) _ _ _; refine Av ?_; try dsimp only [Ar, Aa, Ap, Ab]) | fail)
    refine Ac rfl (r_mut rfl rfl rfl rfl rfl (.refl _) (a1_number (r := (rdS (rdN (rdN r 1).2 8).2).2) (n := 2) (m := 2) rfl (by omega) (by omega)) (fun u9 cs' hr => ?_))
    obtain ⟨rfl, rfl⟩ := hr
    repeat' (first
    | ((show AL _ _ _ _ _ _ _ _; refine Ac Y ?_); (first
      | (show AOp _ _ ⟨_, .move _, _, _, _, _⟩ _ _ _; refine Ao hG Y Y ?_)
      | (show AOp _ _ ⟨_, .assign _, _, _, _, _⟩ _ _ _; refine A1 hG Y Y ?_)
      | (show AOp _ _ ⟨_, .binOp _ _ _ _ _, _, _, _, _⟩ _ _ _; first | refine Au hG Y Y Y Y Y (by omega) ?_ | refine As hG Y Y Y Y Y (by omega) ?_ | (refine Aq hG Y Y Y Y Y (fun h => ?_) (fun h => ?_)))
      | (show AOp _ _ ⟨_, .load _ _, _, _, _, _⟩ _ _ _; first | refine Aj 0 hG Y Y Y Y ?_ | refine Aj 1 hG Y Y Y Y ?_ | refine Aj 2 hG Y Y Y Y ?_)
      | (show AOp _ _ ⟨_, .convert _ _ _, _, _, _, _⟩ _ _ _; first | refine A4 hG Y Y Y Y Y (by omega) ?_ | refine Bc hG Y Y Y Y Y ?_)
      | (show AOp _ _ ⟨_, .store _ _ _, _, _, _, _⟩ _ _ _; first | refine Ax 0 hG Y Y Y Y Y Y Y ?_ | refine Ax 1 hG Y Y Y Y Y Y Y ?_ | refine Ax 2 hG Y Y Y Y Y Y Y ?_)
      | refine r_q hG Y Y Y ?_))
    | (show AL _ _ _ _ _ _ _ _; first | refine Bd Y Y Y ?_ | (refine Al ?_; first | show AW _ _ _ _ _ _ | show ∃ x', _ < _ ∧ _)) | (show AW _ _ (.seq _ _) _ _ _; refine Af ?_; intro Q1) | (show AW _ _ (.region _ _ false) _ _ _; refine Ad ?_; intro O1) | (show AW _ _ (.cond _ _ _) _ _ _; first | refine Ai Y ?_ | refine Ah Y ?_) | (show AW _ _ (.skip) _ _ _; refine Ag ?_; first | show AW _ _ _ _ _ _ | show ∃ x', _ < _ ∧ _) | (show AW _ _ (.block _ _) _ _ _; refine Aw ?_; intro Q1) | (show AW _ _ (.ret) _ _ _; refine Av ?_; try dsimp only [Ar, Aa, Ap, Ab]) | fail)
    refine Al ?_
    dsimp (config := { zetaDelta := true }) only [Ar, Aa, Ap, Ab]
    apply B3
    · exact A3
    · exact (List.Sublist.cons_cons _ (List.Sublist.cons_cons _ .slnil))
    · exact .refl _
    · rfl
    · exact ⟨by rw [hF], by rw [hF]; exact ⟨Pp, _, _, rfl, wP, .nil 1, .nil 1, by simp only [hsc]; rfl⟩⟩
  by_cases k2 : (rdN r 1).1 = 2
  · have hF := by have := @freshF.eq_1 op r; rw [if_neg k1, if_pos k2] at this; exact this
    repeat' (first
    | ((show AL _ _ _ _ _ _ _ _; refine Ac Y ?_); (first
      | (show AOp _ _ ⟨_, .move _, _, _, _, _⟩ _ _ _; refine Ao hG Y Y ?_)
      | (show AOp _ _ ⟨_, .assign _, _, _, _, _⟩ _ _ _; refine A1 hG Y Y ?_)
      | (show AOp _ _ ⟨_, .binOp _ _ _ _ _, _, _, _, _⟩ _ _ _; first | refine Au hG Y Y Y Y Y (by omega) ?_ | refine As hG Y Y Y Y Y (by omega) ?_ | (refine Aq hG Y Y Y Y Y (fun h => ?_) (fun h => ?_)))
      | (show AOp _ _ ⟨_, .load _ _, _, _, _, _⟩ _ _ _; first | refine Aj 0 hG Y Y Y Y ?_ | refine Aj 1 hG Y Y Y Y ?_ | refine Aj 2 hG Y Y Y Y ?_)
      | (show AOp _ _ ⟨_, .convert _ _ _, _, _, _, _⟩ _ _ _; first | refine A4 hG Y Y Y Y Y (by omega) ?_ | refine Bc hG Y Y Y Y Y ?_)
      | (show AOp _ _ ⟨_, .store _ _ _, _, _, _, _⟩ _ _ _; first | refine Ax 0 hG Y Y Y Y Y Y Y ?_ | refine Ax 1 hG Y Y Y Y Y Y Y ?_ | refine Ax 2 hG Y Y Y Y Y Y Y ?_)
      | refine r_q hG Y Y Y ?_))
    | (show AL _ _ _ _ _ _ _ _; first | refine Bd Y Y Y ?_ | (refine Al ?_; first | show AW _ _ _ _ _ _ | show ∃ x', _ < _ ∧ _)) | (show AW _ _ (.seq _ _) _ _ _; refine Af ?_; intro Q1) | (show AW _ _ (.region _ _ false) _ _ _; refine Ad ?_; intro O1) | (show AW _ _ (.cond _ _ _) _ _ _; first | refine Ai Y ?_ | refine Ah Y ?_) | (show AW _ _ (.skip) _ _ _; refine Ag ?_; first | show AW _ _ _ _ _ _ | show ∃ x', _ < _ ∧ _) | (show AW _ _ (.block _ _) _ _ _; refine Aw ?_; intro Q1) | (show AW _ _ (.ret) _ _ _; refine Av ?_; try dsimp only [Ar, Aa, Ap, Ab]) | fail)
    refine Ac rfl (r_mut rfl rfl rfl rfl rfl (.refl _) (a1_bytes (r := (rdS (rdN (rdN r 1).2 8).2).2) (by omega)) (fun u9 cs' hr => ?_))
    obtain ⟨rfl, rfl⟩ := hr
    repeat' (first
    | ((show AL _ _ _ _ _ _ _ _; refine Ac Y ?_); (first
      | (show AOp _ _ ⟨_, .move _, _, _, _, _⟩ _ _ _; refine Ao hG Y Y ?_)
      | (show AOp _ _ ⟨_, .assign _, _, _, _, _⟩ _ _ _; refine A1 hG Y Y ?_)
      | (show AOp _ _ ⟨_, .binOp _ _ _ _ _, _, _, _, _⟩ _ _ _; first | refine Au hG Y Y Y Y Y (by omega) ?_ | refine As hG Y Y Y Y Y (by omega) ?_ | (refine Aq hG Y Y Y Y Y (fun h => ?_) (fun h => ?_)))
      | (show AOp _ _ ⟨_, .load _ _, _, _, _, _⟩ _ _ _; first | refine Aj 0 hG Y Y Y Y ?_ | refine Aj 1 hG Y Y Y Y ?_ | refine Aj 2 hG Y Y Y Y ?_)
      | (show AOp _ _ ⟨_, .convert _ _ _, _, _, _, _⟩ _ _ _; first | refine A4 hG Y Y Y Y Y (by omega) ?_ | refine Bc hG Y Y Y Y Y ?_)
      | (show AOp _ _ ⟨_, .store _ _ _, _, _, _, _⟩ _ _ _; first | refine Ax 0 hG Y Y Y Y Y Y Y ?_ | refine Ax 1 hG Y Y Y Y Y Y Y ?_ | refine Ax 2 hG Y Y Y Y Y Y Y ?_)
      | refine r_q hG Y Y Y ?_))
    | (show AL _ _ _ _ _ _ _ _; first | refine Bd Y Y Y ?_ | (refine Al ?_; first | show AW _ _ _ _ _ _ | show ∃ x', _ < _ ∧ _)) | (show AW _ _ (.seq _ _) _ _ _; refine Af ?_; intro Q1) | (show AW _ _ (.region _ _ false) _ _ _; refine Ad ?_; intro O1) | (show AW _ _ (.cond _ _ _) _ _ _; first | refine Ai Y ?_ | refine Ah Y ?_) | (show AW _ _ (.skip) _ _ _; refine Ag ?_; first | show AW _ _ _ _ _ _ | show ∃ x', _ < _ ∧ _) | (show AW _ _ (.block _ _) _ _ _; refine Aw ?_; intro Q1) | (show AW _ _ (.ret) _ _ _; refine Av ?_; try dsimp only [Ar, Aa, Ap, Ab]) | fail)
    refine Al ?_
    dsimp (config := { zetaDelta := true }) only [Ar, Aa, Ap, Ab]
    apply B3
    · exact A3
    · exact (List.Sublist.cons_cons _ (List.Sublist.cons_cons _ .slnil))
    · exact .refl _
    · rfl
    · exact ⟨by rw [hF], by rw [hF]; exact ⟨Pp, _, _, rfl, wP, .refl _, .nil 1, by simp only [hsc]; rfl⟩⟩
  by_cases k3 : (rdN r 1).1 = 3
  · have hF := by have := @freshF.eq_1 op r; rw [if_neg k1, if_neg k2, if_pos k3] at this; exact this
    repeat' (first
    | ((show AL _ _ _ _ _ _ _ _; refine Ac Y ?_); (first
      | (show AOp _ _ ⟨_, .move _, _, _, _, _⟩ _ _ _; refine Ao hG Y Y ?_)
      | (show AOp _ _ ⟨_, .assign _, _, _, _, _⟩ _ _ _; refine A1 hG Y Y ?_)
      | (show AOp _ _ ⟨_, .binOp _ _ _ _ _, _, _, _, _⟩ _ _ _; first | refine Au hG Y Y Y Y Y (by omega) ?_ | refine As hG Y Y Y Y Y (by omega) ?_ | (refine Aq hG Y Y Y Y Y (fun h => ?_) (fun h => ?_)))
      | (show AOp _ _ ⟨_, .load _ _, _, _, _, _⟩ _ _ _; first | refine Aj 0 hG Y Y Y Y ?_ | refine Aj 1 hG Y Y Y Y ?_ | refine Aj 2 hG Y Y Y Y ?_)
      | (show AOp _ _ ⟨_, .convert _ _ _, _, _, _, _⟩ _ _ _; first | refine A4 hG Y Y Y Y Y (by omega) ?_ | refine Bc hG Y Y Y Y Y ?_)
      | (show AOp _ _ ⟨_, .store _ _ _, _, _, _, _⟩ _ _ _; first | refine Ax 0 hG Y Y Y Y Y Y Y ?_ | refine Ax 1 hG Y Y Y Y Y Y Y ?_ | refine Ax 2 hG Y Y Y Y Y Y Y ?_)
      | refine r_q hG Y Y Y ?_))
    | (show AL _ _ _ _ _ _ _ _; first | refine Bd Y Y Y ?_ | (refine Al ?_; first | show AW _ _ _ _ _ _ | show ∃ x', _ < _ ∧ _)) | (show AW _ _ (.seq _ _) _ _ _; refine Af ?_; intro Q1) | (show AW _ _ (.region _ _ false) _ _ _; refine Ad ?_; intro O1) | (show AW _ _ (.cond _ _ _) _ _ _; first | refine Ai Y ?_ | refine Ah Y ?_) | (show AW _ _ (.skip) _ _ _; refine Ag ?_; first | show AW _ _ _ _ _ _ | show ∃ x', _ < _ ∧ _) | (show AW _ _ (.block _ _) _ _ _; refine Aw ?_; intro Q1) | (show AW _ _ (.ret) _ _ _; refine Av ?_; try dsimp only [Ar, Aa, Ap, Ab]) | fail)
    refine Ac rfl (r_mut rfl rfl rfl rfl rfl (.refl _) (a1_cats (r := (rdS (rdN (rdN r 1).2 8).2).2) (by omega)) (fun u9 cs' hr => ?_))
    obtain ⟨rfl, rfl⟩ := hr
    repeat' (first
    | ((show AL _ _ _ _ _ _ _ _; refine Ac Y ?_); (first
      | (show AOp _ _ ⟨_, .move _, _, _, _, _⟩ _ _ _; refine Ao hG Y Y ?_)
      | (show AOp _ _ ⟨_, .assign _, _, _, _, _⟩ _ _ _; refine A1 hG Y Y ?_)
      | (show AOp _ _ ⟨_, .binOp _ _ _ _ _, _, _, _, _⟩ _ _ _; first | refine Au hG Y Y Y Y Y (by omega) ?_ | refine As hG Y Y Y Y Y (by omega) ?_ | (refine Aq hG Y Y Y Y Y (fun h => ?_) (fun h => ?_)))
      | (show AOp _ _ ⟨_, .load _ _, _, _, _, _⟩ _ _ _; first | refine Aj 0 hG Y Y Y Y ?_ | refine Aj 1 hG Y Y Y Y ?_ | refine Aj 2 hG Y Y Y Y ?_)
      | (show AOp _ _ ⟨_, .convert _ _ _, _, _, _, _⟩ _ _ _; first | refine A4 hG Y Y Y Y Y (by omega) ?_ | refine Bc hG Y Y Y Y Y ?_)
      | (show AOp _ _ ⟨_, .store _ _ _, _, _, _, _⟩ _ _ _; first | refine Ax 0 hG Y Y Y Y Y Y Y ?_ | refine Ax 1 hG Y Y Y Y Y Y Y ?_ | refine Ax 2 hG Y Y Y Y Y Y Y ?_)
      | refine r_q hG Y Y Y ?_))
    | (show AL _ _ _ _ _ _ _ _; first | refine Bd Y Y Y ?_ | (refine Al ?_; first | show AW _ _ _ _ _ _ | show ∃ x', _ < _ ∧ _)) | (show AW _ _ (.seq _ _) _ _ _; refine Af ?_; intro Q1) | (show AW _ _ (.region _ _ false) _ _ _; refine Ad ?_; intro O1) | (show AW _ _ (.cond _ _ _) _ _ _; first | refine Ai Y ?_ | refine Ah Y ?_) | (show AW _ _ (.skip) _ _ _; refine Ag ?_; first | show AW _ _ _ _ _ _ | show ∃ x', _ < _ ∧ _) | (show AW _ _ (.block _ _) _ _ _; refine Aw ?_; intro Q1) | (show AW _ _ (.ret) _ _ _; refine Av ?_; try dsimp only [Ar, Aa, Ap, Ab]) | fail)
    refine Al ?_
    dsimp (config := { zetaDelta := true }) only [Ar, Aa, Ap, Ab]
    apply B3
    · exact A3
    · exact (List.Sublist.cons_cons _ (List.Sublist.cons_cons _ .slnil))
    · exact .refl _
    · rfl
    · exact ⟨by rw [hF], by rw [hF]; exact ⟨Pp, _, _, rfl, wP, .nil 1, .refl _, by simp only [hsc]; rfl⟩⟩
  · have hF := by have := @freshF.eq_1 op r; rw [if_neg k1, if_neg k2, if_neg k3] at this; exact this
    repeat' (first
    | ((show AL _ _ _ _ _ _ _ _; refine Ac Y ?_); (first
      | (show AOp _ _ ⟨_, .move _, _, _, _, _⟩ _ _ _; refine Ao hG Y Y ?_)
      | (show AOp _ _ ⟨_, .assign _, _, _, _, _⟩ _ _ _; refine A1 hG Y Y ?_)
      | (show AOp _ _ ⟨_, .binOp _ _ _ _ _, _, _, _, _⟩ _ _ _; first | refine Au hG Y Y Y Y Y (by omega) ?_ | refine As hG Y Y Y Y Y (by omega) ?_ | (refine Aq hG Y Y Y Y Y (fun h => ?_) (fun h => ?_)))
      | (show AOp _ _ ⟨_, .load _ _, _, _, _, _⟩ _ _ _; first | refine Aj 0 hG Y Y Y Y ?_ | refine Aj 1 hG Y Y Y Y ?_ | refine Aj 2 hG Y Y Y Y ?_)
      | (show AOp _ _ ⟨_, .convert _ _ _, _, _, _, _⟩ _ _ _; first | refine A4 hG Y Y Y Y Y (by omega) ?_ | refine Bc hG Y Y Y Y Y ?_)
      | (show AOp _ _ ⟨_, .store _ _ _, _, _, _, _⟩ _ _ _; first | refine Ax 0 hG Y Y Y Y Y Y Y ?_ | refine Ax 1 hG Y Y Y Y Y Y Y ?_ | refine Ax 2 hG Y Y Y Y Y Y Y ?_)
      | refine r_q hG Y Y Y ?_))
    | (show AL _ _ _ _ _ _ _ _; first | refine Bd Y Y Y ?_ | (refine Al ?_; first | show AW _ _ _ _ _ _ | show ∃ x', _ < _ ∧ _)) | (show AW _ _ (.seq _ _) _ _ _; refine Af ?_; intro Q1) | (show AW _ _ (.region _ _ false) _ _ _; refine Ad ?_; intro O1) | (show AW _ _ (.cond _ _ _) _ _ _; first | refine Ai Y ?_ | refine Ah Y ?_) | (show AW _ _ (.skip) _ _ _; refine Ag ?_; first | show AW _ _ _ _ _ _ | show ∃ x', _ < _ ∧ _) | (show AW _ _ (.block _ _) _ _ _; refine Aw ?_; intro Q1) | (show AW _ _ (.ret) _ _ _; refine Av ?_; try dsimp only [Ar, Aa, Ap, Ab]) | fail)
    refine Ag ?_
    dsimp (config := { zetaDelta := true }) only [Ar, Aa, Ap, Ab]
    apply B3
    · exact A3
    · exact (List.Sublist.cons_cons _ (List.Sublist.cons_cons _ .slnil))
    · exact .refl _
    · rfl
    · exact ⟨by rw [hF], by rw [hF]; exact ⟨Pp, _, _, rfl, wP, .nil 1, .nil 1, by simp only [hsc]; rfl⟩⟩
def Bf (op : Nat) (r : RS) : CO × RS :=
  if op = 2 then (⟨op, 0, 0, 0, 0, 0, (rdS r).1.df, (rdS r).1.ps, [], []⟩, (rdS r).2) else
  if op = 3 then freshF op r else
  if op = 4 then (⟨op, 0, (rdN r 8).1, 0, (rdN (rdN r 8).2 2).1, (rdN (rdN (rdN r 8).2 2).2 2).1, 0, [], [], []⟩, (rdN (rdN (rdN r 8).2 2).2 2).2) else
  if op = 5 then (⟨op, 0, (rdN r 8).1, 0, (rdN (rdN r 8).2 2).1, 0, 0, [], (rdB (rdN (rdN r 8).2 2).2).1, []⟩, (rdB (rdN (rdN r 8).2 2).2).2) else
  if op = 6 ∨ op = 7 ∨ op = 9 ∨ op = 11 then (⟨op, 0, (rdN r 8).1, 0, 0, 0, 0, [], [], []⟩, (rdN r 8).2) else
  if op = 8 then (⟨op, 0, (rdN r 8).1, 0, 0, 0, 0, [], (rdB (rdN r 8).2).1, []⟩, (rdB (rdN r 8).2).2) else
  if op = 10 then (⟨op, 0, (rdN r 8).1, (rdN (rdN r 8).2 8).1, 0, (rdN (rdN (rdN r 8).2 8).2 2).1, 0, [], [], []⟩, (rdN (rdN (rdN r 8).2 8).2 2).2) else
  if op = 1 ∨ op = 12 ∨ op = 13 then (⟨op, 0, 0, 0, 0, 0, 0, [], [], []⟩, r) else
  (⟨op, 0, 0, 0, 0, 0, 0, [], [], []⟩, if r.e = 0 then ⟨r.b, 2⟩ else r)
set_option maxHeartbeats 2000000 in
theorem a1_call {r : RS} {op : Nat} (hl : r.b.length ≤ 4294967296) :
    Mut2 Try.prog 19 [] r.cells (zeroKC op) (fun _ cs' ds' => cs' = (Bf op r).2.cells ∧ DS ds' (Bf op r).1) := by
  intro off i j
  have l1 := rdN_len r 8
  have l2 := rdN_len (rdN r 8).2 2
  have l8 := rdN_len (rdN r 8).2 8
  have v2 : (rdN (rdN r 8).2 2).1 < 65536 := rdN_lt _ 2
  have v3 : (rdN (rdN (rdN r 8).2 2).2 2).1 < 65536 := rdN_lt _ 2
  have v4 : (rdN (rdN (rdN r 8).2 8).2 2).1 < 65536 := rdN_lt _ 2
  by_cases k0 : op = 2
  · have hF := by have := @Bf.eq_1 op r; rw [if_pos k0] at this; exact this
    unfold zeroKC
    refine A5 (N := 107) (rs := []) hG Try.func19 rfl rfl rfl rfl rfl ?_
    repeat' (first
    | ((show AL _ _ _ _ _ _ _ _; refine Ac Y ?_); (first
      | (show AOp _ _ ⟨_, .move _, _, _, _, _⟩ _ _ _; refine Ao hG Y Y ?_)
      | (show AOp _ _ ⟨_, .assign _, _, _, _, _⟩ _ _ _; refine A1 hG Y Y ?_)
      | (show AOp _ _ ⟨_, .binOp _ _ _ _ _, _, _, _, _⟩ _ _ _; first | refine Au hG Y Y Y Y Y (by omega) ?_ | refine As hG Y Y Y Y Y (by omega) ?_ | (refine Aq hG Y Y Y Y Y (fun h => ?_) (fun h => ?_)))
      | (show AOp _ _ ⟨_, .load _ _, _, _, _, _⟩ _ _ _; first | refine Aj 0 hG Y Y Y Y ?_ | refine Aj 1 hG Y Y Y Y ?_ | refine Aj 2 hG Y Y Y Y ?_)
      | (show AOp _ _ ⟨_, .convert _ _ _, _, _, _, _⟩ _ _ _; first | refine A4 hG Y Y Y Y Y (by omega) ?_ | refine Bc hG Y Y Y Y Y ?_)
      | (show AOp _ _ ⟨_, .store _ _ _, _, _, _, _⟩ _ _ _; first | refine Ax 0 hG Y Y Y Y Y Y Y ?_ | refine Ax 1 hG Y Y Y Y Y Y Y ?_ | refine Ax 2 hG Y Y Y Y Y Y Y ?_)
      | refine r_q hG Y Y Y ?_))
    | (show AL _ _ _ _ _ _ _ _; first | refine Bd Y Y Y ?_ | (refine Al ?_; first | show AW _ _ _ _ _ _ | show ∃ x', _ < _ ∧ _)) | (show AW _ _ (.seq _ _) _ _ _; refine Af ?_; intro Q1) | (show AW _ _ (.region _ _ false) _ _ _; refine Ad ?_; intro O1) | (show AW _ _ (.cond _ _ _) _ _ _; first | refine Ai Y ?_ | refine Ah Y ?_) | (show AW _ _ (.skip) _ _ _; refine Ag ?_; first | show AW _ _ _ _ _ _ | show ∃ x', _ < _ ∧ _) | (show AW _ _ (.block _ _) _ _ _; refine Aw ?_; intro Q1) | (show AW _ _ (.ret) _ _ _; refine Av ?_; try dsimp only [Ar, Aa, Ap, Ab]) | fail)
    refine Ac rfl (r_mut2 rfl rfl rfl rfl rfl (.refl _) (a1_label (r := r) (by omega)) (fun u9 cs' ds' hr => ?_))
    obtain ⟨rfl, Pp, rfl, wP, hsc⟩ := hr
    repeat' (first
    | ((show AL _ _ _ _ _ _ _ _; refine Ac Y ?_); (first
      | (show AOp _ _ ⟨_, .move _, _, _, _, _⟩ _ _ _; refine Ao hG Y Y ?_)
      | (show AOp _ _ ⟨_, .assign _, _, _, _, _⟩ _ _ _; refine A1 hG Y Y ?_)
      | (show AOp _ _ ⟨_, .binOp _ _ _ _ _, _, _, _, _⟩ _ _ _; first | refine Au hG Y Y Y Y Y (by omega) ?_ | refine As hG Y Y Y Y Y (by omega) ?_ | (refine Aq hG Y Y Y Y Y (fun h => ?_) (fun h => ?_)))
      | (show AOp _ _ ⟨_, .load _ _, _, _, _, _⟩ _ _ _; first | refine Aj 0 hG Y Y Y Y ?_ | refine Aj 1 hG Y Y Y Y ?_ | refine Aj 2 hG Y Y Y Y ?_)
      | (show AOp _ _ ⟨_, .convert _ _ _, _, _, _, _⟩ _ _ _; first | refine A4 hG Y Y Y Y Y (by omega) ?_ | refine Bc hG Y Y Y Y Y ?_)
      | (show AOp _ _ ⟨_, .store _ _ _, _, _, _, _⟩ _ _ _; first | refine Ax 0 hG Y Y Y Y Y Y Y ?_ | refine Ax 1 hG Y Y Y Y Y Y Y ?_ | refine Ax 2 hG Y Y Y Y Y Y Y ?_)
      | refine r_q hG Y Y Y ?_))
    | (show AL _ _ _ _ _ _ _ _; first | refine Bd Y Y Y ?_ | (refine Al ?_; first | show AW _ _ _ _ _ _ | show ∃ x', _ < _ ∧ _)) | (show AW _ _ (.seq _ _) _ _ _; refine Af ?_; intro Q1) | (show AW _ _ (.region _ _ false) _ _ _; refine Ad ?_; intro O1) | (show AW _ _ (.cond _ _ _) _ _ _; first | refine Ai Y ?_ | refine Ah Y ?_) | (show AW _ _ (.skip) _ _ _; refine Ag ?_; first | show AW _ _ _ _ _ _ | show ∃ x', _ < _ ∧ _) | (show AW _ _ (.block _ _) _ _ _; refine Aw ?_; intro Q1) | (show AW _ _ (.ret) _ _ _; refine Av ?_; try dsimp only [Ar, Aa, Ap, Ab]) | fail)
    refine Al ?_
    dsimp (config := { zetaDelta := true }) only [Ar, Aa, Ap, Ab]
    apply B3
    · exact A3
    · exact (List.Sublist.cons_cons _ (List.Sublist.cons_cons _ .slnil))
    · exact .refl _
    · rfl
    · exact ⟨by rw [hF], by rw [hF]; exact ⟨_, _, _, rfl, wP, .nil 1, .nil 1, by simp only [hsc]; rfl⟩⟩
  by_cases k1 : op = 3
  · have hF := by have := @Bf.eq_1 op r; rw [if_neg k0, if_pos k1] at this; exact this
    refine A5 (N := 107) (rs := []) hG Try.func19 rfl rfl rfl rfl rfl ?_
    repeat' (first
    | ((show AL _ _ _ _ _ _ _ _; refine Ac Y ?_); (first
      | (show AOp _ _ ⟨_, .move _, _, _, _, _⟩ _ _ _; refine Ao hG Y Y ?_)
      | (show AOp _ _ ⟨_, .assign _, _, _, _, _⟩ _ _ _; refine A1 hG Y Y ?_)
      | (show AOp _ _ ⟨_, .binOp _ _ _ _ _, _, _, _, _⟩ _ _ _; first | refine Au hG Y Y Y Y Y (by omega) ?_ | refine As hG Y Y Y Y Y (by omega) ?_ | (refine Aq hG Y Y Y Y Y (fun h => ?_) (fun h => ?_)))
      | (show AOp _ _ ⟨_, .load _ _, _, _, _, _⟩ _ _ _; first | refine Aj 0 hG Y Y Y Y ?_ | refine Aj 1 hG Y Y Y Y ?_ | refine Aj 2 hG Y Y Y Y ?_)
      | (show AOp _ _ ⟨_, .convert _ _ _, _, _, _, _⟩ _ _ _; first | refine A4 hG Y Y Y Y Y (by omega) ?_ | refine Bc hG Y Y Y Y Y ?_)
      | (show AOp _ _ ⟨_, .store _ _ _, _, _, _, _⟩ _ _ _; first | refine Ax 0 hG Y Y Y Y Y Y Y ?_ | refine Ax 1 hG Y Y Y Y Y Y Y ?_ | refine Ax 2 hG Y Y Y Y Y Y Y ?_)
      | refine r_q hG Y Y Y ?_))
    | (show AL _ _ _ _ _ _ _ _; first | refine Bd Y Y Y ?_ | (refine Al ?_; first | show AW _ _ _ _ _ _ | show ∃ x', _ < _ ∧ _)) | (show AW _ _ (.seq _ _) _ _ _; refine Af ?_; intro Q1) | (show AW _ _ (.region _ _ false) _ _ _; refine Ad ?_; intro O1) | (show AW _ _ (.cond _ _ _) _ _ _; first | refine Ai Y ?_ | refine Ah Y ?_) | (show AW _ _ (.skip) _ _ _; refine Ag ?_; first | show AW _ _ _ _ _ _ | show ∃ x', _ < _ ∧ _) | (show AW _ _ (.block _ _) _ _ _; refine Aw ?_; intro Q1) | (show AW _ _ (.ret) _ _ _; refine Av ?_; try dsimp only [Ar, Aa, Ap, Ab]) | fail)
    refine Ac rfl (r_mut2 rfl rfl rfl rfl rfl (.refl _) (a1_fresh (r := r) (op := op) hl) (fun u9 cs' ds' hr => ?_))
    obtain ⟨rfl, hr⟩ := hr
    repeat' (first
    | ((show AL _ _ _ _ _ _ _ _; refine Ac Y ?_); (first
      | (show AOp _ _ ⟨_, .move _, _, _, _, _⟩ _ _ _; refine Ao hG Y Y ?_)
      | (show AOp _ _ ⟨_, .assign _, _, _, _, _⟩ _ _ _; refine A1 hG Y Y ?_)
      | (show AOp _ _ ⟨_, .binOp _ _ _ _ _, _, _, _, _⟩ _ _ _; first | refine Au hG Y Y Y Y Y (by omega) ?_ | refine As hG Y Y Y Y Y (by omega) ?_ | (refine Aq hG Y Y Y Y Y (fun h => ?_) (fun h => ?_)))
      | (show AOp _ _ ⟨_, .load _ _, _, _, _, _⟩ _ _ _; first | refine Aj 0 hG Y Y Y Y ?_ | refine Aj 1 hG Y Y Y Y ?_ | refine Aj 2 hG Y Y Y Y ?_)
      | (show AOp _ _ ⟨_, .convert _ _ _, _, _, _, _⟩ _ _ _; first | refine A4 hG Y Y Y Y Y (by omega) ?_ | refine Bc hG Y Y Y Y Y ?_)
      | (show AOp _ _ ⟨_, .store _ _ _, _, _, _, _⟩ _ _ _; first | refine Ax 0 hG Y Y Y Y Y Y Y ?_ | refine Ax 1 hG Y Y Y Y Y Y Y ?_ | refine Ax 2 hG Y Y Y Y Y Y Y ?_)
      | refine r_q hG Y Y Y ?_))
    | (show AL _ _ _ _ _ _ _ _; first | refine Bd Y Y Y ?_ | (refine Al ?_; first | show AW _ _ _ _ _ _ | show ∃ x', _ < _ ∧ _)) | (show AW _ _ (.seq _ _) _ _ _; refine Af ?_; intro Q1) | (show AW _ _ (.region _ _ false) _ _ _; refine Ad ?_; intro O1) | (show AW _ _ (.cond _ _ _) _ _ _; first | refine Ai Y ?_ | refine Ah Y ?_) | (show AW _ _ (.skip) _ _ _; refine Ag ?_; first | show AW _ _ _ _ _ _ | show ∃ x', _ < _ ∧ _) | (show AW _ _ (.block _ _) _ _ _; refine Aw ?_; intro Q1) | (show AW _ _ (.ret) _ _ _; refine Av ?_; try dsimp only [Ar, Aa, Ap, Ab]) | fail)
    refine Al ?_
    dsimp (config := { zetaDelta := true }) only [Ar, Aa, Ap, Ab]
    apply B3
    · exact A3
    · exact (List.Sublist.cons_cons _ (List.Sublist.cons_cons _ .slnil))
    · exact .refl _
    · rfl
    · exact ⟨by rw [hF], by rw [hF]; exact hr⟩
  by_cases k2 : op = 4
  · have hF := by have := @Bf.eq_1 op r; rw [if_neg k0, if_neg k1, if_pos k2] at this; exact this
    unfold zeroKC
    refine A5 (N := 107) (rs := []) hG Try.func19 rfl rfl rfl rfl rfl ?_
    repeat' (first
    | ((show AL _ _ _ _ _ _ _ _; refine Ac Y ?_); (first
      | (show AOp _ _ ⟨_, .move _, _, _, _, _⟩ _ _ _; refine Ao hG Y Y ?_)
      | (show AOp _ _ ⟨_, .assign _, _, _, _, _⟩ _ _ _; refine A1 hG Y Y ?_)
      | (show AOp _ _ ⟨_, .binOp _ _ _ _ _, _, _, _, _⟩ _ _ _; first | refine Au hG Y Y Y Y Y (by omega) ?_ | refine As hG Y Y Y Y Y (by omega) ?_ | (refine Aq hG Y Y Y Y Y (fun h => ?_) (fun h => ?_)))
      | (show AOp _ _ ⟨_, .load _ _, _, _, _, _⟩ _ _ _; first | refine Aj 0 hG Y Y Y Y ?_ | refine Aj 1 hG Y Y Y Y ?_ | refine Aj 2 hG Y Y Y Y ?_)
      | (show AOp _ _ ⟨_, .convert _ _ _, _, _, _, _⟩ _ _ _; first | refine A4 hG Y Y Y Y Y (by omega) ?_ | refine Bc hG Y Y Y Y Y ?_)
      | (show AOp _ _ ⟨_, .store _ _ _, _, _, _, _⟩ _ _ _; first | refine Ax 0 hG Y Y Y Y Y Y Y ?_ | refine Ax 1 hG Y Y Y Y Y Y Y ?_ | refine Ax 2 hG Y Y Y Y Y Y Y ?_)
      | refine r_q hG Y Y Y ?_))
    | (show AL _ _ _ _ _ _ _ _; first | refine Bd Y Y Y ?_ | (refine Al ?_; first | show AW _ _ _ _ _ _ | show ∃ x', _ < _ ∧ _)) | (show AW _ _ (.seq _ _) _ _ _; refine Af ?_; intro Q1) | (show AW _ _ (.region _ _ false) _ _ _; refine Ad ?_; intro O1) | (show AW _ _ (.cond _ _ _) _ _ _; first | refine Ai Y ?_ | refine Ah Y ?_) | (show AW _ _ (.skip) _ _ _; refine Ag ?_; first | show AW _ _ _ _ _ _ | show ∃ x', _ < _ ∧ _) | (show AW _ _ (.block _ _) _ _ _; refine Aw ?_; intro Q1) | (show AW _ _ (.ret) _ _ _; refine Av ?_; try dsimp only [Ar, Aa, Ap, Ab]) | fail)
    refine Ac rfl (r_mut rfl rfl rfl rfl rfl (.refl _) (a1_number (r := r) (n := 8) (m := 8) rfl (by omega) (by omega)) (fun u9 cs' hr => ?_))
    obtain ⟨rfl, rfl⟩ := hr
    repeat' (first
    | ((show AL _ _ _ _ _ _ _ _; refine Ac Y ?_); (first
      | (show AOp _ _ ⟨_, .move _, _, _, _, _⟩ _ _ _; refine Ao hG Y Y ?_)
      | (show AOp _ _ ⟨_, .assign _, _, _, _, _⟩ _ _ _; refine A1 hG Y Y ?_)
      | (show AOp _ _ ⟨_, .binOp _ _ _ _ _, _, _, _, _⟩ _ _ _; first | refine Au hG Y Y Y Y Y (by omega) ?_ | refine As hG Y Y Y Y Y (by omega) ?_ | (refine Aq hG Y Y Y Y Y (fun h => ?_) (fun h => ?_)))
      | (show AOp _ _ ⟨_, .load _ _, _, _, _, _⟩ _ _ _; first | refine Aj 0 hG Y Y Y Y ?_ | refine Aj 1 hG Y Y Y Y ?_ | refine Aj 2 hG Y Y Y Y ?_)
      | (show AOp _ _ ⟨_, .convert _ _ _, _, _, _, _⟩ _ _ _; first | refine A4 hG Y Y Y Y Y (by omega) ?_ | refine Bc hG Y Y Y Y Y ?_)
      | (show AOp _ _ ⟨_, .store _ _ _, _, _, _, _⟩ _ _ _; first | refine Ax 0 hG Y Y Y Y Y Y Y ?_ | refine Ax 1 hG Y Y Y Y Y Y Y ?_ | refine Ax 2 hG Y Y Y Y Y Y Y ?_)
      | refine r_q hG Y Y Y ?_))
    | (show AL _ _ _ _ _ _ _ _; first | refine Bd Y Y Y ?_ | (refine Al ?_; first | show AW _ _ _ _ _ _ | show ∃ x', _ < _ ∧ _)) | (show AW _ _ (.seq _ _) _ _ _; refine Af ?_; intro Q1) | (show AW _ _ (.region _ _ false) _ _ _; refine Ad ?_; intro O1) | (show AW _ _ (.cond _ _ _) _ _ _; first | refine Ai Y ?_ | refine Ah Y ?_) | (show AW _ _ (.skip) _ _ _; refine Ag ?_; first | show AW _ _ _ _ _ _ | show ∃ x', _ < _ ∧ _) | (show AW _ _ (.block _ _) _ _ _; refine Aw ?_; intro Q1) | (show AW _ _ (.ret) _ _ _; refine Av ?_; try dsimp only [Ar, Aa, Ap, Ab]) | fail)
    refine Ac rfl (r_mut rfl rfl rfl rfl rfl (.refl _) (a1_number (r := (rdN r 8).2) (n := 2) (m := 2) rfl (by omega) (by omega)) (fun u9 cs' hr => ?_))
    obtain ⟨rfl, rfl⟩ := hr
    repeat' (first
    | ((show AL _ _ _ _ _ _ _ _; refine Ac Y ?_); (first
      | (show AOp _ _ ⟨_, .move _, _, _, _, _⟩ _ _ _; refine Ao hG Y Y ?_)
      | (show AOp _ _ ⟨_, .assign _, _, _, _, _⟩ _ _ _; refine A1 hG Y Y ?_)
      | (show AOp _ _ ⟨_, .binOp _ _ _ _ _, _, _, _, _⟩ _ _ _; first | refine Au hG Y Y Y Y Y (by omega) ?_ | refine As hG Y Y Y Y Y (by omega) ?_ | (refine Aq hG Y Y Y Y Y (fun h => ?_) (fun h => ?_)))
      | (show AOp _ _ ⟨_, .load _ _, _, _, _, _⟩ _ _ _; first | refine Aj 0 hG Y Y Y Y ?_ | refine Aj 1 hG Y Y Y Y ?_ | refine Aj 2 hG Y Y Y Y ?_)
      | (show AOp _ _ ⟨_, .convert _ _ _, _, _, _, _⟩ _ _ _; first | refine A4 hG Y Y Y Y Y (by omega) ?_ | refine Bc hG Y Y Y Y Y ?_)
      | (show AOp _ _ ⟨_, .store _ _ _, _, _, _, _⟩ _ _ _; first | refine Ax 0 hG Y Y Y Y Y Y Y ?_ | refine Ax 1 hG Y Y Y Y Y Y Y ?_ | refine Ax 2 hG Y Y Y Y Y Y Y ?_)
      | refine r_q hG Y Y Y ?_))
    | (show AL _ _ _ _ _ _ _ _; first | refine Bd Y Y Y ?_ | (refine Al ?_; first | show AW _ _ _ _ _ _ | show ∃ x', _ < _ ∧ _)) | (show AW _ _ (.seq _ _) _ _ _; refine Af ?_; intro Q1) | (show AW _ _ (.region _ _ false) _ _ _; refine Ad ?_; intro O1) | (show AW _ _ (.cond _ _ _) _ _ _; first | refine Ai Y ?_ | refine Ah Y ?_) | (show AW _ _ (.skip) _ _ _; refine Ag ?_; first | show AW _ _ _ _ _ _ | show ∃ x', _ < _ ∧ _) | (show AW _ _ (.block _ _) _ _ _; refine Aw ?_; intro Q1) | (show AW _ _ (.ret) _ _ _; refine Av ?_; try dsimp only [Ar, Aa, Ap, Ab]) | fail)
    refine Ac rfl (r_mut rfl rfl rfl rfl rfl (.refl _) (a1_number (r := (rdN (rdN r 8).2 2).2) (n := 2) (m := 2) rfl (by omega) (by omega)) (fun u9 cs' hr => ?_))
    obtain ⟨rfl, rfl⟩ := hr
    repeat' (first
    | ((show AL _ _ _ _ _ _ _ _; refine Ac Y ?_); (first
      | (show AOp _ _ ⟨_, .move _, _, _, _, _⟩ _ _ _; refine Ao hG Y Y ?_)
      | (show AOp _ _ ⟨_, .assign _, _, _, _, _⟩ _ _ _; refine A1 hG Y Y ?_)
      | (show AOp _ _ ⟨_, .binOp _ _ _ _ _, _, _, _, _⟩ _ _ _; first | refine Au hG Y Y Y Y Y (by omega) ?_ | refine As hG Y Y Y Y Y (by omega) ?_ | (refine Aq hG Y Y Y Y Y (fun h => ?_) (fun h => ?_)))
      | (show AOp _ _ ⟨_, .load _ _, _, _, _, _⟩ _ _ _; first | refine Aj 0 hG Y Y Y Y ?_ | refine Aj 1 hG Y Y Y Y ?_ | refine Aj 2 hG Y Y Y Y ?_)
      | (show AOp _ _ ⟨_, .convert _ _ _, _, _, _, _⟩ _ _ _; first | refine A4 hG Y Y Y Y Y (by omega) ?_ | refine Bc hG Y Y Y Y Y ?_)
      | (show AOp _ _ ⟨_, .store _ _ _, _, _, _, _⟩ _ _ _; first | refine Ax 0 hG Y Y Y Y Y Y Y ?_ | refine Ax 1 hG Y Y Y Y Y Y Y ?_ | refine Ax 2 hG Y Y Y Y Y Y Y ?_)
      | refine r_q hG Y Y Y ?_))
    | (show AL _ _ _ _ _ _ _ _; first | refine Bd Y Y Y ?_ | (refine Al ?_; first | show AW _ _ _ _ _ _ | show ∃ x', _ < _ ∧ _)) | (show AW _ _ (.seq _ _) _ _ _; refine Af ?_; intro Q1) | (show AW _ _ (.region _ _ false) _ _ _; refine Ad ?_; intro O1) | (show AW _ _ (.cond _ _ _) _ _ _; first | refine Ai Y ?_ | refine Ah Y ?_) | (show AW _ _ (.skip) _ _ _; refine Ag ?_; first | show AW _ _ _ _ _ _ | show ∃ x', _ < _ ∧ _) | (show AW _ _ (.block _ _) _ _ _; refine Aw ?_; intro Q1) | (show AW _ _ (.ret) _ _ _; refine Av ?_; try dsimp only [Ar, Aa, Ap, Ab]) | fail)
    refine Al ?_
    dsimp (config := { zetaDelta := true }) only [Ar, Aa, Ap, Ab]
    apply B3
    · exact A3
    · exact (List.Sublist.cons_cons _ (List.Sublist.cons_cons _ .slnil))
    · exact .refl _
    · rfl
    · exact ⟨by rw [hF], by rw [hF]; exact ⟨_, _, _, rfl, .nil 2, .nil 1, .nil 1, rfl⟩⟩
  by_cases k3 : op = 5
  · have hF := by have := @Bf.eq_1 op r; rw [if_neg k0, if_neg k1, if_neg k2, if_pos k3] at this; exact this
    unfold zeroKC
    refine A5 (N := 107) (rs := []) hG Try.func19 rfl rfl rfl rfl rfl ?_
    repeat' (first
    | ((show AL _ _ _ _ _ _ _ _; refine Ac Y ?_); (first
      | (show AOp _ _ ⟨_, .move _, _, _, _, _⟩ _ _ _; refine Ao hG Y Y ?_)
      | (show AOp _ _ ⟨_, .assign _, _, _, _, _⟩ _ _ _; refine A1 hG Y Y ?_)
      | (show AOp _ _ ⟨_, .binOp _ _ _ _ _, _, _, _, _⟩ _ _ _; first | refine Au hG Y Y Y Y Y (by omega) ?_ | refine As hG Y Y Y Y Y (by omega) ?_ | (refine Aq hG Y Y Y Y Y (fun h => ?_) (fun h => ?_)))
      | (show AOp _ _ ⟨_, .load _ _, _, _, _, _⟩ _ _ _; first | refine Aj 0 hG Y Y Y Y ?_ | refine Aj 1 hG Y Y Y Y ?_ | refine Aj 2 hG Y Y Y Y ?_)
      | (show AOp _ _ ⟨_, .convert _ _ _, _, _, _, _⟩ _ _ _; first | refine A4 hG Y Y Y Y Y (by omega) ?_ | refine Bc hG Y Y Y Y Y ?_)
      | (show AOp _ _ ⟨_, .store _ _ _, _, _, _, _⟩ _ _ _; first | refine Ax 0 hG Y Y Y Y Y Y Y ?_ | refine Ax 1 hG Y Y Y Y Y Y Y ?_ | refine Ax 2 hG Y Y Y Y Y Y Y ?_)
      | refine r_q hG Y Y Y ?_))
    | (show AL _ _ _ _ _ _ _ _; first | refine Bd Y Y Y ?_ | (refine Al ?_; first | show AW _ _ _ _ _ _ | show ∃ x', _ < _ ∧ _)) | (show AW _ _ (.seq _ _) _ _ _; refine Af ?_; intro Q1) | (show AW _ _ (.region _ _ false) _ _ _; refine Ad ?_; intro O1) | (show AW _ _ (.cond _ _ _) _ _ _; first | refine Ai Y ?_ | refine Ah Y ?_) | (show AW _ _ (.skip) _ _ _; refine Ag ?_; first | show AW _ _ _ _ _ _ | show ∃ x', _ < _ ∧ _) | (show AW _ _ (.block _ _) _ _ _; refine Aw ?_; intro Q1) | (show AW _ _ (.ret) _ _ _; refine Av ?_; try dsimp only [Ar, Aa, Ap, Ab]) | fail)
    refine Ac rfl (r_mut rfl rfl rfl rfl rfl (.refl _) (a1_number (r := r) (n := 8) (m := 8) rfl (by omega) (by omega)) (fun u9 cs' hr => ?_))
    obtain ⟨rfl, rfl⟩ := hr
    repeat' (first
    | ((show AL _ _ _ _ _ _ _ _; refine Ac Y ?_); (first
      | (show AOp _ _ ⟨_, .move _, _, _, _, _⟩ _ _ _; refine Ao hG Y Y ?_)
      | (show AOp _ _ ⟨_, .assign _, _, _, _, _⟩ _ _ _; refine A1 hG Y Y ?_)
      | (show AOp _ _ ⟨_, .binOp _ _ _ _ _, _, _, _, _⟩ _ _ _; first | refine Au hG Y Y Y Y Y (by omega) ?_ | refine As hG Y Y Y Y Y (by omega) ?_ | (refine Aq hG Y Y Y Y Y (fun h => ?_) (fun h => ?_)))
      | (show AOp _ _ ⟨_, .load _ _, _, _, _, _⟩ _ _ _; first | refine Aj 0 hG Y Y Y Y ?_ | refine Aj 1 hG Y Y Y Y ?_ | refine Aj 2 hG Y Y Y Y ?_)
      | (show AOp _ _ ⟨_, .convert _ _ _, _, _, _, _⟩ _ _ _; first | refine A4 hG Y Y Y Y Y (by omega) ?_ | refine Bc hG Y Y Y Y Y ?_)
      | (show AOp _ _ ⟨_, .store _ _ _, _, _, _, _⟩ _ _ _; first | refine Ax 0 hG Y Y Y Y Y Y Y ?_ | refine Ax 1 hG Y Y Y Y Y Y Y ?_ | refine Ax 2 hG Y Y Y Y Y Y Y ?_)
      | refine r_q hG Y Y Y ?_))
    | (show AL _ _ _ _ _ _ _ _; first | refine Bd Y Y Y ?_ | (refine Al ?_; first | show AW _ _ _ _ _ _ | show ∃ x', _ < _ ∧ _)) | (show AW _ _ (.seq _ _) _ _ _; refine Af ?_; intro Q1) | (show AW _ _ (.region _ _ false) _ _ _; refine Ad ?_; intro O1) | (show AW _ _ (.cond _ _ _) _ _ _; first | refine Ai Y ?_ | refine Ah Y ?_) | (show AW _ _ (.skip) _ _ _; refine Ag ?_; first | show AW _ _ _ _ _ _ | show ∃ x', _ < _ ∧ _) | (show AW _ _ (.block _ _) _ _ _; refine Aw ?_; intro Q1) | (show AW _ _ (.ret) _ _ _; refine Av ?_; try dsimp only [Ar, Aa, Ap, Ab]) | fail)
    refine Ac rfl (r_mut rfl rfl rfl rfl rfl (.refl _) (a1_number (r := (rdN r 8).2) (n := 2) (m := 2) rfl (by omega) (by omega)) (fun u9 cs' hr => ?_))
    obtain ⟨rfl, rfl⟩ := hr
    repeat' (first
    | ((show AL _ _ _ _ _ _ _ _; refine Ac Y ?_); (first
      | (show AOp _ _ ⟨_, .move _, _, _, _, _⟩ _ _ _; refine Ao hG Y Y ?_)
      | (show AOp _ _ ⟨_, .assign _, _, _, _, _⟩ _ _ _; refine A1 hG Y Y ?_)
      | (show AOp _ _ ⟨_, .binOp _ _ _ _ _, _, _, _, _⟩ _ _ _; first | refine Au hG Y Y Y Y Y (by omega) ?_ | refine As hG Y Y Y Y Y (by omega) ?_ | (refine Aq hG Y Y Y Y Y (fun h => ?_) (fun h => ?_)))
      | (show AOp _ _ ⟨_, .load _ _, _, _, _, _⟩ _ _ _; first | refine Aj 0 hG Y Y Y Y ?_ | refine Aj 1 hG Y Y Y Y ?_ | refine Aj 2 hG Y Y Y Y ?_)
      | (show AOp _ _ ⟨_, .convert _ _ _, _, _, _, _⟩ _ _ _; first | refine A4 hG Y Y Y Y Y (by omega) ?_ | refine Bc hG Y Y Y Y Y ?_)
      | (show AOp _ _ ⟨_, .store _ _ _, _, _, _, _⟩ _ _ _; first | refine Ax 0 hG Y Y Y Y Y Y Y ?_ | refine Ax 1 hG Y Y Y Y Y Y Y ?_ | refine Ax 2 hG Y Y Y Y Y Y Y ?_)
      | refine r_q hG Y Y Y ?_))
    | (show AL _ _ _ _ _ _ _ _; first | refine Bd Y Y Y ?_ | (refine Al ?_; first | show AW _ _ _ _ _ _ | show ∃ x', _ < _ ∧ _)) | (show AW _ _ (.seq _ _) _ _ _; refine Af ?_; intro Q1) | (show AW _ _ (.region _ _ false) _ _ _; refine Ad ?_; intro O1) | (show AW _ _ (.cond _ _ _) _ _ _; first | refine Ai Y ?_ | refine Ah Y ?_) | (show AW _ _ (.skip) _ _ _; refine Ag ?_; first | show AW _ _ _ _ _ _ | show ∃ x', _ < _ ∧ _) | (show AW _ _ (.block _ _) _ _ _; refine Aw ?_; intro Q1) | (show AW _ _ (.ret) _ _ _; refine Av ?_; try dsimp only [Ar, Aa, Ap, Ab]) | fail)
    refine Ac rfl (r_mut rfl rfl rfl rfl rfl (.refl _) (a1_bytes (r := (rdN (rdN r 8).2 2).2) (by omega)) (fun u9 cs' hr => ?_))
    obtain ⟨rfl, rfl⟩ := hr
    repeat' (first
    | ((show AL _ _ _ _ _ _ _ _; refine Ac Y ?_); (first
      | (show AOp _ _ ⟨_, .move _, _, _, _, _⟩ _ _ _; refine Ao hG Y Y ?_)
      | (show AOp _ _ ⟨_, .assign _, _, _, _, _⟩ _ _ _; refine A1 hG Y Y ?_)
      | (show AOp _ _ ⟨_, .binOp _ _ _ _ _, _, _, _, _⟩ _ _ _; first | refine Au hG Y Y Y Y Y (by omega) ?_ | refine As hG Y Y Y Y Y (by omega) ?_ | (refine Aq hG Y Y Y Y Y (fun h => ?_) (fun h => ?_)))
      | (show AOp _ _ ⟨_, .load _ _, _, _, _, _⟩ _ _ _; first | refine Aj 0 hG Y Y Y Y ?_ | refine Aj 1 hG Y Y Y Y ?_ | refine Aj 2 hG Y Y Y Y ?_)
      | (show AOp _ _ ⟨_, .convert _ _ _, _, _, _, _⟩ _ _ _; first | refine A4 hG Y Y Y Y Y (by omega) ?_ | refine Bc hG Y Y Y Y Y ?_)
      | (show AOp _ _ ⟨_, .store _ _ _, _, _, _, _⟩ _ _ _; first | refine Ax 0 hG Y Y Y Y Y Y Y ?_ | refine Ax 1 hG Y Y Y Y Y Y Y ?_ | refine Ax 2 hG Y Y Y Y Y Y Y ?_)
      | refine r_q hG Y Y Y ?_))
    | (show AL _ _ _ _ _ _ _ _; first | refine Bd Y Y Y ?_ | (refine Al ?_; first | show AW _ _ _ _ _ _ | show ∃ x', _ < _ ∧ _)) | (show AW _ _ (.seq _ _) _ _ _; refine Af ?_; intro Q1) | (show AW _ _ (.region _ _ false) _ _ _; refine Ad ?_; intro O1) | (show AW _ _ (.cond _ _ _) _ _ _; first | refine Ai Y ?_ | refine Ah Y ?_) | (show AW _ _ (.skip) _ _ _; refine Ag ?_; first | show AW _ _ _ _ _ _ | show ∃ x', _ < _ ∧ _) | (show AW _ _ (.block _ _) _ _ _; refine Aw ?_; intro Q1) | (show AW _ _ (.ret) _ _ _; refine Av ?_; try dsimp only [Ar, Aa, Ap, Ab]) | fail)
    refine Al ?_
    dsimp (config := { zetaDelta := true }) only [Ar, Aa, Ap, Ab]
    apply B3
    · exact A3
    · exact (List.Sublist.cons_cons _ (List.Sublist.cons_cons _ .slnil))
    · exact .refl _
    · rfl
    · exact ⟨by rw [hF], by rw [hF]; exact ⟨_, _, _, rfl, .nil 2, .refl _, .nil 1, rfl⟩⟩
  by_cases k4 : op = 6 ∨ op = 7 ∨ op = 9 ∨ op = 11
  · have hF := by have := @Bf.eq_1 op r; rw [if_neg k0, if_neg k1, if_neg k2, if_neg k3, if_pos k4] at this; exact this
    rcases k4 with rfl | rfl | rfl | rfl
    · unfold zeroKC
      refine A5 (N := 107) (rs := []) hG Try.func19 rfl rfl rfl rfl rfl ?_
      repeat' (first
    | ((show AL _ _ _ _ _ _ _ _; refine Ac Y ?_); (first
      | (show AOp _ _ ⟨_, .move _, _, _, _, _⟩ _ _ _; refine Ao hG Y Y ?_)
      | (show AOp _ _ ⟨_, .assign _, _, _, _, _⟩ _ _ _; refine A1 hG Y Y ?_)
      | (show AOp _ _ ⟨_, .binOp _ _ _ _ _, _, _, _, _⟩ _ _ _; first | refine Au hG Y Y Y Y Y (by omega) ?_ | refine As hG Y Y Y Y Y (by omega) ?_ | (refine Aq hG Y Y Y Y Y (fun h => ?_) (fun h => ?_)))
      | (show AOp _ _ ⟨_, .load _ _, _, _, _, _⟩ _ _ _; first | refine Aj 0 hG Y Y Y Y ?_ | refine Aj 1 hG Y Y Y Y ?_ | refine Aj 2 hG Y Y Y Y ?_)
      | (show AOp _ _ ⟨_, .convert _ _ _, _, _, _, _⟩ _ _ _; first | refine A4 hG Y Y Y Y Y (by omega) ?_ | refine Bc hG Y Y Y Y Y ?_)
      | (show AOp _ _ ⟨_, .store _ _ _, _, _, _, _⟩ _ _ _; first | refine Ax 0 hG Y Y Y Y Y Y Y ?_ | refine Ax 1 hG Y Y Y Y Y Y Y ?_ | refine Ax 2 hG Y Y Y Y Y Y Y ?_)
      | refine r_q hG Y Y Y ?_))
    | (show AL _ _ _ _ _ _ _ _; first | refine Bd Y Y Y ?_ | (refine Al ?_; first | show AW _ _ _ _ _ _ | show ∃ x', _ < _ ∧ _)) | (show AW _ _ (.seq _ _) _ _ _; refine Af ?_; intro Q1) | (show AW _ _ (.region _ _ false) _ _ _; refine Ad ?_; intro O1) | (show AW _ _ (.cond _ _ _) _ _ _; first | refine Ai Y ?_ | refine Ah Y ?_) | (show AW _ _ (.skip) _ _ _; refine Ag ?_; first | show AW _ _ _ _ _ _ | show ∃ x', _ < _ ∧ _) | (show AW _ _ (.block _ _) _ _ _; refine Aw ?_; intro Q1) | (show AW _ _ (.ret) _ _ _; refine Av ?_; try dsimp only [Ar, Aa, Ap, Ab]) | fail)
      refine Ac rfl (r_mut rfl rfl rfl rfl rfl (.refl _) (a1_number (r := r) (n := 8) (m := 8) rfl (by omega) (by omega)) (fun u9 cs' hr => ?_))
      obtain ⟨rfl, rfl⟩ := hr
      repeat' (first
    | ((show AL _ _ _ _ _ _ _ _; refine Ac Y ?_); (first
      | (show AOp _ _ ⟨_, .move _, _, _, _, _⟩ _ _ _; refine Ao hG Y Y ?_)
      | (show AOp _ _ ⟨_, .assign _, _, _, _, _⟩ _ _ _; refine A1 hG Y Y ?_)
      | (show AOp _ _ ⟨_, .binOp _ _ _ _ _, _, _, _, _⟩ _ _ _; first | refine Au hG Y Y Y Y Y (by omega) ?_ | refine As hG Y Y Y Y Y (by omega) ?_ | (refine Aq hG Y Y Y Y Y (fun h => ?_) (fun h => ?_)))
      | (show AOp _ _ ⟨_, .load _ _, _, _, _, _⟩ _ _ _; first | refine Aj 0 hG Y Y Y Y ?_ | refine Aj 1 hG Y Y Y Y ?_ | refine Aj 2 hG Y Y Y Y ?_)
      | (show AOp _ _ ⟨_, .convert _ _ _, _, _, _, _⟩ _ _ _; first | refine A4 hG Y Y Y Y Y (by omega) ?_ | refine Bc hG Y Y Y Y Y ?_)
      | (show AOp _ _ ⟨_, .store _ _ _, _, _, _, _⟩ _ _ _; first | refine Ax 0 hG Y Y Y Y Y Y Y ?_ | refine Ax 1 hG Y Y Y Y Y Y Y ?_ | refine Ax 2 hG Y Y Y Y Y Y Y ?_)
      | refine r_q hG Y Y Y ?_))
    | (show AL _ _ _ _ _ _ _ _; first | refine Bd Y Y Y ?_ | (refine Al ?_; first | show AW _ _ _ _ _ _ | show ∃ x', _ < _ ∧ _)) | (show AW _ _ (.seq _ _) _ _ _; refine Af ?_; intro Q1) | (show AW _ _ (.region _ _ false) _ _ _; refine Ad ?_; intro O1) | (show AW _ _ (.cond _ _ _) _ _ _; first | refine Ai Y ?_ | refine Ah Y ?_) | (show AW _ _ (.skip) _ _ _; refine Ag ?_; first | show AW _ _ _ _ _ _ | show ∃ x', _ < _ ∧ _) | (show AW _ _ (.block _ _) _ _ _; refine Aw ?_; intro Q1) | (show AW _ _ (.ret) _ _ _; refine Av ?_; try dsimp only [Ar, Aa, Ap, Ab]) | fail)
      refine Al ?_
      dsimp (config := { zetaDelta := true }) only [Ar, Aa, Ap, Ab]
      apply B3
      · exact A3
      · exact (List.Sublist.cons_cons _ (List.Sublist.cons_cons _ .slnil))
      · exact .refl _
      · rfl
      · exact ⟨by rw [hF], by rw [hF]; exact ⟨_, _, _, rfl, .nil 2, .nil 1, .nil 1, rfl⟩⟩
    · unfold zeroKC
      refine A5 (N := 107) (rs := []) hG Try.func19 rfl rfl rfl rfl rfl ?_
      repeat' (first
    | ((show AL _ _ _ _ _ _ _ _; refine Ac Y ?_); (first
      | (show AOp _ _ ⟨_, .move _, _, _, _, _⟩ _ _ _; refine Ao hG Y Y ?_)
      | (show AOp _ _ ⟨_, .assign _, _, _, _, _⟩ _ _ _; refine A1 hG Y Y ?_)
      | (show AOp _ _ ⟨_, .binOp _ _ _ _ _, _, _, _, _⟩ _ _ _; first | refine Au hG Y Y Y Y Y (by omega) ?_ | refine As hG Y Y Y Y Y (by omega) ?_ | (refine Aq hG Y Y Y Y Y (fun h => ?_) (fun h => ?_)))
      | (show AOp _ _ ⟨_, .load _ _, _, _, _, _⟩ _ _ _; first | refine Aj 0 hG Y Y Y Y ?_ | refine Aj 1 hG Y Y Y Y ?_ | refine Aj 2 hG Y Y Y Y ?_)
      | (show AOp _ _ ⟨_, .convert _ _ _, _, _, _, _⟩ _ _ _; first | refine A4 hG Y Y Y Y Y (by omega) ?_ | refine Bc hG Y Y Y Y Y ?_)
      | (show AOp _ _ ⟨_, .store _ _ _, _, _, _, _⟩ _ _ _; first | refine Ax 0 hG Y Y Y Y Y Y Y ?_ | refine Ax 1 hG Y Y Y Y Y Y Y ?_ | refine Ax 2 hG Y Y Y Y Y Y Y ?_)
      | refine r_q hG Y Y Y ?_))
    | (show AL _ _ _ _ _ _ _ _; first | refine Bd Y Y Y ?_ | (refine Al ?_; first | show AW _ _ _ _ _ _ | show ∃ x', _ < _ ∧ _)) | (show AW _ _ (.seq _ _) _ _ _; refine Af ?_; intro Q1) | (show AW _ _ (.region _ _ false) _ _ _; refine Ad ?_; intro O1) | (show AW _ _ (.cond _ _ _) _ _ _; first | refine Ai Y ?_ | refine Ah Y ?_) | (show AW _ _ (.skip) _ _ _; refine Ag ?_; first | show AW _ _ _ _ _ _ | show ∃ x', _ < _ ∧ _) | (show AW _ _ (.block _ _) _ _ _; refine Aw ?_; intro Q1) | (show AW _ _ (.ret) _ _ _; refine Av ?_; try dsimp only [Ar, Aa, Ap, Ab]) | fail)
      refine Ac rfl (r_mut rfl rfl rfl rfl rfl (.refl _) (a1_number (r := r) (n := 8) (m := 8) rfl (by omega) (by omega)) (fun u9 cs' hr => ?_))
      obtain ⟨rfl, rfl⟩ := hr
      repeat' (first
    | ((show AL _ _ _ _ _ _ _ _; refine Ac Y ?_); (first
      | (show AOp _ _ ⟨_, .move _, _, _, _, _⟩ _ _ _; refine Ao hG Y Y ?_)
      | (show AOp _ _ ⟨_, .assign _, _, _, _, _⟩ _ _ _; refine A1 hG Y Y ?_)
      | (show AOp _ _ ⟨_, .binOp _ _ _ _ _, _, _, _, _⟩ _ _ _; first | refine Au hG Y Y Y Y Y (by omega) ?_ | refine As hG Y Y Y Y Y (by omega) ?_ | (refine Aq hG Y Y Y Y Y (fun h => ?_) (fun h => ?_)))
      | (show AOp _ _ ⟨_, .load _ _, _, _, _, _⟩ _ _ _; first | refine Aj 0 hG Y Y Y Y ?_ | refine Aj 1 hG Y Y Y Y ?_ | refine Aj 2 hG Y Y Y Y ?_)
      | (show AOp _ _ ⟨_, .convert _ _ _, _, _, _, _⟩ _ _ _; first | refine A4 hG Y Y Y Y Y (by omega) ?_ | refine Bc hG Y Y Y Y Y ?_)
      | (show AOp _ _ ⟨_, .store _ _ _, _, _, _, _⟩ _ _ _; first | refine Ax 0 hG Y Y Y Y Y Y Y ?_ | refine Ax 1 hG Y Y Y Y Y Y Y ?_ | refine Ax 2 hG Y Y Y Y Y Y Y ?_)
      | refine r_q hG Y Y Y ?_))
    | (show AL _ _ _ _ _ _ _ _; first | refine Bd Y Y Y ?_ | (refine Al ?_; first | show AW _ _ _ _ _ _ | show ∃ x', _ < _ ∧ _)) | (show AW _ _ (.seq _ _) _ _ _; refine Af ?_; intro Q1) | (show AW _ _ (.region _ _ false) _ _ _; refine Ad ?_; intro O1) | (show AW _ _ (.cond _ _ _) _ _ _; first | refine Ai Y ?_ | refine Ah Y ?_) | (show AW _ _ (.skip) _ _ _; refine Ag ?_; first | show AW _ _ _ _ _ _ | show ∃ x', _ < _ ∧ _) | (show AW _ _ (.block _ _) _ _ _; refine Aw ?_; intro Q1) | (show AW _ _ (.ret) _ _ _; refine Av ?_; try dsimp only [Ar, Aa, Ap, Ab]) | fail)
      refine Al ?_
      dsimp (config := { zetaDelta := true }) only [Ar, Aa, Ap, Ab]
      apply B3
      · exact A3
      · exact (List.Sublist.cons_cons _ (List.Sublist.cons_cons _ .slnil))
      · exact .refl _
      · rfl
      · exact ⟨by rw [hF], by rw [hF]; exact ⟨_, _, _, rfl, .nil 2, .nil 1, .nil 1, rfl⟩⟩
    · unfold zeroKC
      refine A5 (N := 107) (rs := []) hG Try.func19 rfl rfl rfl rfl rfl ?_
      repeat' (first
    | ((show AL _ _ _ _ _ _ _ _; refine Ac Y ?_); (first
      | (show AOp _ _ ⟨_, .move _, _, _, _, _⟩ _ _ _; refine Ao hG Y Y ?_)
      | (show AOp _ _ ⟨_, .assign _, _, _, _, _⟩ _ _ _; refine A1 hG Y Y ?_)
      | (show AOp _ _ ⟨_, .binOp _ _ _ _ _, _, _, _, _⟩ _ _ _; first | refine Au hG Y Y Y Y Y (by omega) ?_ | refine As hG Y Y Y Y Y (by omega) ?_ | (refine Aq hG Y Y Y Y Y (fun h => ?_) (fun h => ?_)))
      | (show AOp _ _ ⟨_, .load _ _, _, _, _, _⟩ _ _ _; first | refine Aj 0 hG Y Y Y Y ?_ | refine Aj 1 hG Y Y Y Y ?_ | refine Aj 2 hG Y Y Y Y ?_)
      | (show AOp _ _ ⟨_, .convert _ _ _, _, _, _, _⟩ _ _ _; first | refine A4 hG Y Y Y Y Y (by omega) ?_ | refine Bc hG Y Y Y Y Y ?_)
      | (show AOp _ _ ⟨_, .store _ _ _, _, _, _, _⟩ _ _ _; first | refine Ax 0 hG Y Y Y Y Y Y Y ?_ | refine Ax 1 hG Y Y Y Y Y Y Y ?_ | refine Ax 2 hG Y Y Y Y Y Y Y ?_)
      | refine r_q hG Y Y Y ?_))
    | (show AL _ _ _ _ _ _ _ _; first | refine Bd Y Y Y ?_ | (refine Al ?_; first | show AW _ _ _ _ _ _ | show ∃ x', _ < _ ∧ _)) | (show AW _ _ (.seq _ _) _ _ _; refine Af ?_; intro Q1) | (show AW _ _ (.region _ _ false) _ _ _; refine Ad ?_; intro O1) | (show AW _ _ (.cond _ _ _) _ _ _; first | refine Ai Y ?_ | refine Ah Y ?_) | (show AW _ _ (.skip) _ _ _; refine Ag ?_; first | show AW _ _ _ _ _ _ | show ∃ x', _ < _ ∧ _) | (show AW _ _ (.block _ _) _ _ _; refine Aw ?_; intro Q1) | (show AW _ _ (.ret) _ _ _; refine Av ?_; try dsimp only [Ar, Aa, Ap, Ab]) | fail)
      refine Ac rfl (r_mut rfl rfl rfl rfl rfl (.refl _) (a1_number (r := r) (n := 8) (m := 8) rfl (by omega) (by omega)) (fun u9 cs' hr => ?_))
      obtain ⟨rfl, rfl⟩ := hr
      repeat' (first
    | ((show AL _ _ _ _ _ _ _ _; refine Ac Y ?_); (first
      | (show AOp _ _ ⟨_, .move _, _, _, _, _⟩ _ _ _; refine Ao hG Y Y ?_)
      | (show AOp _ _ ⟨_, .assign _, _, _, _, _⟩ _ _ _; refine A1 hG Y Y ?_)
      | (show AOp _ _ ⟨_, .binOp _ _ _ _ _, _, _, _, _⟩ _ _ _; first | refine Au hG Y Y Y Y Y (by omega) ?_ | refine As hG Y Y Y Y Y (by omega) ?_ | (refine Aq hG Y Y Y Y Y (fun h => ?_) (fun h => ?_)))
      | (show AOp _ _ ⟨_, .load _ _, _, _, _, _⟩ _ _ _; first | refine Aj 0 hG Y Y Y Y ?_ | refine Aj 1 hG Y Y Y Y ?_ | refine Aj 2 hG Y Y Y Y ?_)
      | (show AOp _ _ ⟨_, .convert _ _ _, _, _, _, _⟩ _ _ _; first | refine A4 hG Y Y Y Y Y (by omega) ?_ | refine Bc hG Y Y Y Y Y ?_)
      | (show AOp _ _ ⟨_, .store _ _ _, _, _, _, _⟩ _ _ _; first | refine Ax 0 hG Y Y Y Y Y Y Y ?_ | refine Ax 1 hG Y Y Y Y Y Y Y ?_ | refine Ax 2 hG Y Y Y Y Y Y Y ?_)
      | refine r_q hG Y Y Y ?_))
    | (show AL _ _ _ _ _ _ _ _; first | refine Bd Y Y Y ?_ | (refine Al ?_; first | show AW _ _ _ _ _ _ | show ∃ x', _ < _ ∧ _)) | (show AW _ _ (.seq _ _) _ _ _; refine Af ?_; intro Q1) | (show AW _ _ (.region _ _ false) _ _ _; refine Ad ?_; intro O1) | (show AW _ _ (.cond _ _ _) _ _ _; first | refine Ai Y ?_ | refine Ah Y ?_) | (show AW _ _ (.skip) _ _ _; refine Ag ?_; first | show AW _ _ _ _ _ _ | show ∃ x', _ < _ ∧ _) | (show AW _ _ (.block _ _) _ _ _; refine Aw ?_; intro Q1) | (show AW _ _ (.ret) _ _ _; refine Av ?_; try dsimp only [Ar, Aa, Ap, Ab]) | fail)
      refine Al ?_
      dsimp (config := { zetaDelta := true }) only [Ar, Aa, Ap, Ab]
      apply B3
      · exact A3
      · exact (List.Sublist.cons_cons _ (List.Sublist.cons_cons _ .slnil))
      · exact .refl _
      · rfl
      · exact ⟨by rw [hF], by rw [hF]; exact ⟨_, _, _, rfl, .nil 2, .nil 1, .nil 1, rfl⟩⟩
    · unfold zeroKC
      refine A5 (N := 107) (rs := []) hG Try.func19 rfl rfl rfl rfl rfl ?_
      repeat' (first
    | ((show AL _ _ _ _ _ _ _ _; refine Ac Y ?_); (first
      | (show AOp _ _ ⟨_, .move _, _, _, _, _⟩ _ _ _; refine Ao hG Y Y ?_)
      | (show AOp _ _ ⟨_, .assign _, _, _, _, _⟩ _ _ _; refine A1 hG Y Y ?_)
      | (show AOp _ _ ⟨_, .binOp _ _ _ _ _, _, _, _, _⟩ _ _ _; first | refine Au hG Y Y Y Y Y (by omega) ?_ | refine As hG Y Y Y Y Y (by omega) ?_ | (refine Aq hG Y Y Y Y Y (fun h => ?_) (fun h => ?_)))
      | (show AOp _ _ ⟨_, .load _ _, _, _, _, _⟩ _ _ _; first | refine Aj 0 hG Y Y Y Y ?_ | refine Aj 1 hG Y Y Y Y ?_ | refine Aj 2 hG Y Y Y Y ?_)
      | (show AOp _ _ ⟨_, .convert _ _ _, _, _, _, _⟩ _ _ _; first | refine A4 hG Y Y Y Y Y (by omega) ?_ | refine Bc hG Y Y Y Y Y ?_)
      | (show AOp _ _ ⟨_, .store _ _ _, _, _, _, _⟩ _ _ _; first | refine Ax 0 hG Y Y Y Y Y Y Y ?_ | refine Ax 1 hG Y Y Y Y Y Y Y ?_ | refine Ax 2 hG Y Y Y Y Y Y Y ?_)
      | refine r_q hG Y Y Y ?_))
    | (show AL _ _ _ _ _ _ _ _; first | refine Bd Y Y Y ?_ | (refine Al ?_; first | show AW _ _ _ _ _ _ | show ∃ x', _ < _ ∧ _)) | (show AW _ _ (.seq _ _) _ _ _; refine Af ?_; intro Q1) | (show AW _ _ (.region _ _ false) _ _ _; refine Ad ?_; intro O1) | (show AW _ _ (.cond _ _ _) _ _ _; first | refine Ai Y ?_ | refine Ah Y ?_) | (show AW _ _ (.skip) _ _ _; refine Ag ?_; first | show AW _ _ _ _ _ _ | show ∃ x', _ < _ ∧ _) | (show AW _ _ (.block _ _) _ _ _; refine Aw ?_; intro Q1) | (show AW _ _ (.ret) _ _ _; refine Av ?_; try dsimp only [Ar, Aa, Ap, Ab]) | fail)
      refine Ac rfl (r_mut rfl rfl rfl rfl rfl (.refl _) (a1_number (r := r) (n := 8) (m := 8) rfl (by omega) (by omega)) (fun u9 cs' hr => ?_))
      obtain ⟨rfl, rfl⟩ := hr
      repeat' (first
    | ((show AL _ _ _ _ _ _ _ _; refine Ac Y ?_); (first
      | (show AOp _ _ ⟨_, .move _, _, _, _, _⟩ _ _ _; refine Ao hG Y Y ?_)
      | (show AOp _ _ ⟨_, .assign _, _, _, _, _⟩ _ _ _; refine A1 hG Y Y ?_)
      | (show AOp _ _ ⟨_, .binOp _ _ _ _ _, _, _, _, _⟩ _ _ _; first | refine Au hG Y Y Y Y Y (by omega) ?_ | refine As hG Y Y Y Y Y (by omega) ?_ | (refine Aq hG Y Y Y Y Y (fun h => ?_) (fun h => ?_)))
      | (show AOp _ _ ⟨_, .load _ _, _, _, _, _⟩ _ _ _; first | refine Aj 0 hG Y Y Y Y ?_ | refine Aj 1 hG Y Y Y Y ?_ | refine Aj 2 hG Y Y Y Y ?_)
      | (show AOp _ _ ⟨_, .convert _ _ _, _, _, _, _⟩ _ _ _; first | refine A4 hG Y Y Y Y Y (by omega) ?_ | refine Bc hG Y Y Y Y Y ?_)
      | (show AOp _ _ ⟨_, .store _ _ _, _, _, _, _⟩ _ _ _; first | refine Ax 0 hG Y Y Y Y Y Y Y ?_ | refine Ax 1 hG Y Y Y Y Y Y Y ?_ | refine Ax 2 hG Y Y Y Y Y Y Y ?_)
      | refine r_q hG Y Y Y ?_))
    | (show AL _ _ _ _ _ _ _ _; first | refine Bd Y Y Y ?_ | (refine Al ?_; first | show AW _ _ _ _ _ _ | show ∃ x', _ < _ ∧ _)) | (show AW _ _ (.seq _ _) _ _ _; refine Af ?_; intro Q1) | (show AW _ _ (.region _ _ false) _ _ _; refine Ad ?_; intro O1) | (show AW _ _ (.cond _ _ _) _ _ _; first | refine Ai Y ?_ | refine Ah Y ?_) | (show AW _ _ (.skip) _ _ _; refine Ag ?_; first | show AW _ _ _ _ _ _ | show ∃ x', _ < _ ∧ _) | (show AW _ _ (.block _ _) _ _ _; refine Aw ?_; intro Q1) | (show AW _ _ (.ret) _ _ _; refine Av ?_; try dsimp only [Ar, Aa, Ap, Ab]) | fail)
      refine Al ?_
      dsimp (config := { zetaDelta := true }) only [Ar, Aa, Ap, Ab]
      apply B3
      · exact A3
      · exact (List.Sublist.cons_cons _ (List.Sublist.cons_cons _ .slnil))
      · exact .refl _
      · rfl
      · exact ⟨by rw [hF], by rw [hF]; exact ⟨_, _, _, rfl, .nil 2, .nil 1, .nil 1, rfl⟩⟩
  by_cases k5 : op = 8
  · have hF := by have := @Bf.eq_1 op r; rw [if_neg k0, if_neg k1, if_neg k2, if_neg k3, if_neg k4, if_pos k5] at this; exact this
    unfold zeroKC
    refine A5 (N := 107) (rs := []) hG Try.func19 rfl rfl rfl rfl rfl ?_
    repeat' (first
    | ((show AL _ _ _ _ _ _ _ _; refine Ac Y ?_); (first
      | (show AOp _ _ ⟨_, .move _, _, _, _, _⟩ _ _ _; refine Ao hG Y Y ?_)
      | (show AOp _ _ ⟨_, .assign _, _, _, _, _⟩ _ _ _; refine A1 hG Y Y ?_)
      | (show AOp _ _ ⟨_, .binOp _ _ _ _ _, _, _, _, _⟩ _ _ _; first | refine Au hG Y Y Y Y Y (by omega) ?_ | refine As hG Y Y Y Y Y (by omega) ?_ | (refine Aq hG Y Y Y Y Y (fun h => ?_) (fun h => ?_)))
      | (show AOp _ _ ⟨_, .load _ _, _, _, _, _⟩ _ _ _; first | refine Aj 0 hG Y Y Y Y ?_ | refine Aj 1 hG Y Y Y Y ?_ | refine Aj 2 hG Y Y Y Y ?_)
      | (show AOp _ _ ⟨_, .convert _ _ _, _, _, _, _⟩ _ _ _; first | refine A4 hG Y Y Y Y Y (by omega) ?_ | refine Bc hG Y Y Y Y Y ?_)
      | (show AOp _ _ ⟨_, .store _ _ _, _, _, _, _⟩ _ _ _; first | refine Ax 0 hG Y Y Y Y Y Y Y ?_ | refine Ax 1 hG Y Y Y Y Y Y Y ?_ | refine Ax 2 hG Y Y Y Y Y Y Y ?_)
      | refine r_q hG Y Y Y ?_))
    | (show AL _ _ _ _ _ _ _ _; first | refine Bd Y Y Y ?_ | (refine Al ?_; first | show AW _ _ _ _ _ _ | show ∃ x', _ < _ ∧ _)) | (show AW _ _ (.seq _ _) _ _ _; refine Af ?_; intro Q1) | (show AW _ _ (.region _ _ false) _ _ _; refine Ad ?_; intro O1) | (show AW _ _ (.cond _ _ _) _ _ _; first | refine Ai Y ?_ | refine Ah Y ?_) | (show AW _ _ (.skip) _ _ _; refine Ag ?_; first | show AW _ _ _ _ _ _ | show ∃ x', _ < _ ∧ _) | (show AW _ _ (.block _ _) _ _ _; refine Aw ?_; intro Q1) | (show AW _ _ (.ret) _ _ _; refine Av ?_; try dsimp only [Ar, Aa, Ap, Ab]) | fail)
    refine Ac rfl (r_mut rfl rfl rfl rfl rfl (.refl _) (a1_number (r := r) (n := 8) (m := 8) rfl (by omega) (by omega)) (fun u9 cs' hr => ?_))
    obtain ⟨rfl, rfl⟩ := hr
    repeat' (first
    | ((show AL _ _ _ _ _ _ _ _; refine Ac Y ?_); (first
      | (show AOp _ _ ⟨_, .move _, _, _, _, _⟩ _ _ _; refine Ao hG Y Y ?_)
      | (show AOp _ _ ⟨_, .assign _, _, _, _, _⟩ _ _ _; refine A1 hG Y Y ?_)
      | (show AOp _ _ ⟨_, .binOp _ _ _ _ _, _, _, _, _⟩ _ _ _; first | refine Au hG Y Y Y Y Y (by omega) ?_ | refine As hG Y Y Y Y Y (by omega) ?_ | (refine Aq hG Y Y Y Y Y (fun h => ?_) (fun h => ?_)))
      | (show AOp _ _ ⟨_, .load _ _, _, _, _, _⟩ _ _ _; first | refine Aj 0 hG Y Y Y Y ?_ | refine Aj 1 hG Y Y Y Y ?_ | refine Aj 2 hG Y Y Y Y ?_)
      | (show AOp _ _ ⟨_, .convert _ _ _, _, _, _, _⟩ _ _ _; first | refine A4 hG Y Y Y Y Y (by omega) ?_ | refine Bc hG Y Y Y Y Y ?_)
      | (show AOp _ _ ⟨_, .store _ _ _, _, _, _, _⟩ _ _ _; first | refine Ax 0 hG Y Y Y Y Y Y Y ?_ | refine Ax 1 hG Y Y Y Y Y Y Y ?_ | refine Ax 2 hG Y Y Y Y Y Y Y ?_)
      | refine r_q hG Y Y Y ?_))
    | (show AL _ _ _ _ _ _ _ _; first | refine Bd Y Y Y ?_ | (refine Al ?_; first | show AW _ _ _ _ _ _ | show ∃ x', _ < _ ∧ _)) | (show AW _ _ (.seq _ _) _ _ _; refine Af ?_; intro Q1) | (show AW _ _ (.region _ _ false) _ _ _; refine Ad ?_; intro O1) | (show AW _ _ (.cond _ _ _) _ _ _; first | refine Ai Y ?_ | refine Ah Y ?_) | (show AW _ _ (.skip) _ _ _; refine Ag ?_; first | show AW _ _ _ _ _ _ | show ∃ x', _ < _ ∧ _) | (show AW _ _ (.block _ _) _ _ _; refine Aw ?_; intro Q1) | (show AW _ _ (.ret) _ _ _; refine Av ?_; try dsimp only [Ar, Aa, Ap, Ab]) | fail)
    refine Ac rfl (r_mut rfl rfl rfl rfl rfl (.refl _) (a1_bytes (r := (rdN r 8).2) (by omega)) (fun u9 cs' hr => ?_))
    obtain ⟨rfl, rfl⟩ := hr
    repeat' (first
    | ((show AL _ _ _ _ _ _ _ _; refine Ac Y ?_); (first
      | (show AOp _ _ ⟨_, .move _, _, _, _, _⟩ _ _ _; refine Ao hG Y Y ?_)
      | (show AOp _ _ ⟨_, .assign _, _, _, _, _⟩ _ _ _; refine A1 hG Y Y ?_)
      | (show AOp _ _ ⟨_, .binOp _ _ _ _ _, _, _, _, _⟩ _ _ _; first | refine Au hG Y Y Y Y Y (by omega) ?_ | refine As hG Y Y Y Y Y (by omega) ?_ | (refine Aq hG Y Y Y Y Y (fun h => ?_) (fun h => ?_)))
      | (show AOp _ _ ⟨_, .load _ _, _, _, _, _⟩ _ _ _; first | refine Aj 0 hG Y Y Y Y ?_ | refine Aj 1 hG Y Y Y Y ?_ | refine Aj 2 hG Y Y Y Y ?_)
      | (show AOp _ _ ⟨_, .convert _ _ _, _, _, _, _⟩ _ _ _; first | refine A4 hG Y Y Y Y Y (by omega) ?_ | refine Bc hG Y Y Y Y Y ?_)
      | (show AOp _ _ ⟨_, .store _ _ _, _, _, _, _⟩ _ _ _; first | refine Ax 0 hG Y Y Y Y Y Y Y ?_ | refine Ax 1 hG Y Y Y Y Y Y Y ?_ | refine Ax 2 hG Y Y Y Y Y Y Y ?_)
      | refine r_q hG Y Y Y ?_))
    | (show AL _ _ _ _ _ _ _ _; first | refine Bd Y Y Y ?_ | (refine Al ?_; first | show AW _ _ _ _ _ _ | show ∃ x', _ < _ ∧ _)) | (show AW _ _ (.seq _ _) _ _ _; refine Af ?_; intro Q1) | (show AW _ _ (.region _ _ false) _ _ _; refine Ad ?_; intro O1) | (show AW _ _ (.cond _ _ _) _ _ _; first | refine Ai Y ?_ | refine Ah Y ?_) | (show AW _ _ (.skip) _ _ _; refine Ag ?_; first | show AW _ _ _ _ _ _ | show ∃ x', _ < _ ∧ _) | (show AW _ _ (.block _ _) _ _ _; refine Aw ?_; intro Q1) | (show AW _ _ (.ret) _ _ _; refine Av ?_; try dsimp only [Ar, Aa, Ap, Ab]) | fail)
    refine Al ?_
    dsimp (config := { zetaDelta := true }) only [Ar, Aa, Ap, Ab]
    apply B3
    · exact A3
    · exact (List.Sublist.cons_cons _ (List.Sublist.cons_cons _ .slnil))
    · exact .refl _
    · rfl
    · exact ⟨by rw [hF], by rw [hF]; exact ⟨_, _, _, rfl, .nil 2, .refl _, .nil 1, rfl⟩⟩
  by_cases k6 : op = 10
  · have hF := by have := @Bf.eq_1 op r; rw [if_neg k0, if_neg k1, if_neg k2, if_neg k3, if_neg k4, if_neg k5, if_pos k6] at this; exact this
    unfold zeroKC
    refine A5 (N := 107) (rs := []) hG Try.func19 rfl rfl rfl rfl rfl ?_
    repeat' (first
    | ((show AL _ _ _ _ _ _ _ _; refine Ac Y ?_); (first
      | (show AOp _ _ ⟨_, .move _, _, _, _, _⟩ _ _ _; refine Ao hG Y Y ?_)
      | (show AOp _ _ ⟨_, .assign _, _, _, _, _⟩ _ _ _; refine A1 hG Y Y ?_)
      | (show AOp _ _ ⟨_, .binOp _ _ _ _ _, _, _, _, _⟩ _ _ _; first | refine Au hG Y Y Y Y Y (by omega) ?_ | refine As hG Y Y Y Y Y (by omega) ?_ | (refine Aq hG Y Y Y Y Y (fun h => ?_) (fun h => ?_)))
      | (show AOp _ _ ⟨_, .load _ _, _, _, _, _⟩ _ _ _; first | refine Aj 0 hG Y Y Y Y ?_ | refine Aj 1 hG Y Y Y Y ?_ | refine Aj 2 hG Y Y Y Y ?_)
      | (show AOp _ _ ⟨_, .convert _ _ _, _, _, _, _⟩ _ _ _; first | refine A4 hG Y Y Y Y Y (by omega) ?_ | refine Bc hG Y Y Y Y Y ?_)
      | (show AOp _ _ ⟨_, .store _ _ _, _, _, _, _⟩ _ _ _; first | refine Ax 0 hG Y Y Y Y Y Y Y ?_ | refine Ax 1 hG Y Y Y Y Y Y Y ?_ | refine Ax 2 hG Y Y Y Y Y Y Y ?_)
      | refine r_q hG Y Y Y ?_))
    | (show AL _ _ _ _ _ _ _ _; first | refine Bd Y Y Y ?_ | (refine Al ?_; first | show AW _ _ _ _ _ _ | show ∃ x', _ < _ ∧ _)) | (show AW _ _ (.seq _ _) _ _ _; refine Af ?_; intro Q1) | (show AW _ _ (.region _ _ false) _ _ _; refine Ad ?_; intro O1) | (show AW _ _ (.cond _ _ _) _ _ _; first | refine Ai Y ?_ | refine Ah Y ?_) | (show AW _ _ (.skip) _ _ _; refine Ag ?_; first | show AW _ _ _ _ _ _ | show ∃ x', _ < _ ∧ _) | (show AW _ _ (.block _ _) _ _ _; refine Aw ?_; intro Q1) | (show AW _ _ (.ret) _ _ _; refine Av ?_; try dsimp only [Ar, Aa, Ap, Ab]) | fail)
    refine Ac rfl (r_mut rfl rfl rfl rfl rfl (.refl _) (a1_number (r := r) (n := 8) (m := 8) rfl (by omega) (by omega)) (fun u9 cs' hr => ?_))
    obtain ⟨rfl, rfl⟩ := hr
    repeat' (first
    | ((show AL _ _ _ _ _ _ _ _; refine Ac Y ?_); (first
      | (show AOp _ _ ⟨_, .move _, _, _, _, _⟩ _ _ _; refine Ao hG Y Y ?_)
      | (show AOp _ _ ⟨_, .assign _, _, _, _, _⟩ _ _ _; refine A1 hG Y Y ?_)
      | (show AOp _ _ ⟨_, .binOp _ _ _ _ _, _, _, _, _⟩ _ _ _; first | refine Au hG Y Y Y Y Y (by omega) ?_ | refine As hG Y Y Y Y Y (by omega) ?_ | (refine Aq hG Y Y Y Y Y (fun h => ?_) (fun h => ?_)))
      | (show AOp _ _ ⟨_, .load _ _, _, _, _, _⟩ _ _ _; first | refine Aj 0 hG Y Y Y Y ?_ | refine Aj 1 hG Y Y Y Y ?_ | refine Aj 2 hG Y Y Y Y ?_)
      | (show AOp _ _ ⟨_, .convert _ _ _, _, _, _, _⟩ _ _ _; first | refine A4 hG Y Y Y Y Y (by omega) ?_ | refine Bc hG Y Y Y Y Y ?_)
      | (show AOp _ _ ⟨_, .store _ _ _, _, _, _, _⟩ _ _ _; first | refine Ax 0 hG Y Y Y Y Y Y Y ?_ | refine Ax 1 hG Y Y Y Y Y Y Y ?_ | refine Ax 2 hG Y Y Y Y Y Y Y ?_)
      | refine r_q hG Y Y Y ?_))
    | (show AL _ _ _ _ _ _ _ _; first | refine Bd Y Y Y ?_ | (refine Al ?_; first | show AW _ _ _ _ _ _ | show ∃ x', _ < _ ∧ _)) | (show AW _ _ (.seq _ _) _ _ _; refine Af ?_; intro Q1) | (show AW _ _ (.region _ _ false) _ _ _; refine Ad ?_; intro O1) | (show AW _ _ (.cond _ _ _) _ _ _; first | refine Ai Y ?_ | refine Ah Y ?_) | (show AW _ _ (.skip) _ _ _; refine Ag ?_; first | show AW _ _ _ _ _ _ | show ∃ x', _ < _ ∧ _) | (show AW _ _ (.block _ _) _ _ _; refine Aw ?_; intro Q1) | (show AW _ _ (.ret) _ _ _; refine Av ?_; try dsimp only [Ar, Aa, Ap, Ab]) | fail)
    refine Ac rfl (r_mut rfl rfl rfl rfl rfl (.refl _) (a1_number (r := (rdN r 8).2) (n := 8) (m := 8) rfl (by omega) (by omega)) (fun u9 cs' hr => ?_))
    obtain ⟨rfl, rfl⟩ := hr
    repeat' (first
    | ((show AL _ _ _ _ _ _ _ _; refine Ac Y ?_); (first
      | (show AOp _ _ ⟨_, .move _, _, _, _, _⟩ _ _ _; refine Ao hG Y Y ?_)
      | (show AOp _ _ ⟨_, .assign _, _, _, _, _⟩ _ _ _; refine A1 hG Y Y ?_)
      | (show AOp _ _ ⟨_, .binOp _ _ _ _ _, _, _, _, _⟩ _ _ _; first | refine Au hG Y Y Y Y Y (by omega) ?_ | refine As hG Y Y Y Y Y (by omega) ?_ | (refine Aq hG Y Y Y Y Y (fun h => ?_) (fun h => ?_)))
      | (show AOp _ _ ⟨_, .load _ _, _, _, _, _⟩ _ _ _; first | refine Aj 0 hG Y Y Y Y ?_ | refine Aj 1 hG Y Y Y Y ?_ | refine Aj 2 hG Y Y Y Y ?_)
      | (show AOp _ _ ⟨_, .convert _ _ _, _, _, _, _⟩ _ _ _; first | refine A4 hG Y Y Y Y Y (by omega) ?_ | refine Bc hG Y Y Y Y Y ?_)
      | (show AOp _ _ ⟨_, .store _ _ _, _, _, _, _⟩ _ _ _; first | refine Ax 0 hG Y Y Y Y Y Y Y ?_ | refine Ax 1 hG Y Y Y Y Y Y Y ?_ | refine Ax 2 hG Y Y Y Y Y Y Y ?_)
      | refine r_q hG Y Y Y ?_))
    | (show AL _ _ _ _ _ _ _ _; first | refine Bd Y Y Y ?_ | (refine Al ?_; first | show AW _ _ _ _ _ _ | show ∃ x', _ < _ ∧ _)) | (show AW _ _ (.seq _ _) _ _ _; refine Af ?_; intro Q1) | (show AW _ _ (.region _ _ false) _ _ _; refine Ad ?_; intro O1) | (show AW _ _ (.cond _ _ _) _ _ _; first | refine Ai Y ?_ | refine Ah Y ?_) | (show AW _ _ (.skip) _ _ _; refine Ag ?_; first | show AW _ _ _ _ _ _ | show ∃ x', _ < _ ∧ _) | (show AW _ _ (.block _ _) _ _ _; refine Aw ?_; intro Q1) | (show AW _ _ (.ret) _ _ _; refine Av ?_; try dsimp only [Ar, Aa, Ap, Ab]) | fail)
    refine Ac rfl (r_mut rfl rfl rfl rfl rfl (.refl _) (a1_number (r := (rdN (rdN r 8).2 8).2) (n := 2) (m := 2) rfl (by omega) (by omega)) (fun u9 cs' hr => ?_))
    obtain ⟨rfl, rfl⟩ := hr
    repeat' (first
    | ((show AL _ _ _ _ _ _ _ _; refine Ac Y ?_); (first
      | (show AOp _ _ ⟨_, .move _, _, _, _, _⟩ _ _ _; refine Ao hG Y Y ?_)
      | (show AOp _ _ ⟨_, .assign _, _, _, _, _⟩ _ _ _; refine A1 hG Y Y ?_)
      | (show AOp _ _ ⟨_, .binOp _ _ _ _ _, _, _, _, _⟩ _ _ _; first | refine Au hG Y Y Y Y Y (by omega) ?_ | refine As hG Y Y Y Y Y (by omega) ?_ | (refine Aq hG Y Y Y Y Y (fun h => ?_) (fun h => ?_)))
      | (show AOp _ _ ⟨_, .load _ _, _, _, _, _⟩ _ _ _; first | refine Aj 0 hG Y Y Y Y ?_ | refine Aj 1 hG Y Y Y Y ?_ | refine Aj 2 hG Y Y Y Y ?_)
      | (show AOp _ _ ⟨_, .convert _ _ _, _, _, _, _⟩ _ _ _; first | refine A4 hG Y Y Y Y Y (by omega) ?_ | refine Bc hG Y Y Y Y Y ?_)
      | (show AOp _ _ ⟨_, .store _ _ _, _, _, _, _⟩ _ _ _; first | refine Ax 0 hG Y Y Y Y Y Y Y ?_ | refine Ax 1 hG Y Y Y Y Y Y Y ?_ | refine Ax 2 hG Y Y Y Y Y Y Y ?_)
      | refine r_q hG Y Y Y ?_))
    | (show AL _ _ _ _ _ _ _ _; first | refine Bd Y Y Y ?_ | (refine Al ?_; first | show AW _ _ _ _ _ _ | show ∃ x', _ < _ ∧ _)) | (show AW _ _ (.seq _ _) _ _ _; refine Af ?_; intro Q1) | (show AW _ _ (.region _ _ false) _ _ _; refine Ad ?_; intro O1) | (show AW _ _ (.cond _ _ _) _ _ _; first | refine Ai Y ?_ | refine Ah Y ?_) | (show AW _ _ (.skip) _ _ _; refine Ag ?_; first | show AW _ _ _ _ _ _ | show ∃ x', _ < _ ∧ _) | (show AW _ _ (.block _ _) _ _ _; refine Aw ?_; intro Q1) | (show AW _ _ (.ret) _ _ _; refine Av ?_; try dsimp only [Ar, Aa, Ap, Ab]) | fail)
    refine Al ?_
    dsimp (config := { zetaDelta := true }) only [Ar, Aa, Ap, Ab]
    apply B3
    · exact A3
    · exact (List.Sublist.cons_cons _ (List.Sublist.cons_cons _ .slnil))
    · exact .refl _
    · rfl
    · exact ⟨by rw [hF], by rw [hF]; exact ⟨_, _, _, rfl, .nil 2, .nil 1, .nil 1, rfl⟩⟩
  by_cases k7 : op = 1 ∨ op = 12 ∨ op = 13
  · have hF := by have := @Bf.eq_1 op r; rw [if_neg k0, if_neg k1, if_neg k2, if_neg k3, if_neg k4, if_neg k5, if_neg k6, if_pos k7] at this; exact this
    rcases k7 with rfl | rfl | rfl
    · unfold zeroKC
      refine A5 (N := 107) (rs := []) hG Try.func19 rfl rfl rfl rfl rfl ?_
      repeat' (first
    | ((show AL _ _ _ _ _ _ _ _; refine Ac Y ?_); (first
      | (show AOp _ _ ⟨_, .move _, _, _, _, _⟩ _ _ _; refine Ao hG Y Y ?_)
      | (show AOp _ _ ⟨_, .assign _, _, _, _, _⟩ _ _ _; refine A1 hG Y Y ?_)
      | (show AOp _ _ ⟨_, .binOp _ _ _ _ _, _, _, _, _⟩ _ _ _; first | refine Au hG Y Y Y Y Y (by omega) ?_ | refine As hG Y Y Y Y Y (by omega) ?_ | (refine Aq hG Y Y Y Y Y (fun h => ?_) (fun h => ?_)))
      | (show AOp _ _ ⟨_, .load _ _, _, _, _, _⟩ _ _ _; first | refine Aj 0 hG Y Y Y Y ?_ | refine Aj 1 hG Y Y Y Y ?_ | refine Aj 2 hG Y Y Y Y ?_)
      | (show AOp _ _ ⟨_, .convert _ _ _, _, _, _, _⟩ _ _ _; first | refine A4 hG Y Y Y Y Y (by omega) ?_ | refine Bc hG Y Y Y Y Y ?_)
      | (show AOp _ _ ⟨_, .store _ _ _, _, _, _, _⟩ _ _ _; first | refine Ax 0 hG Y Y Y Y Y Y Y ?_ | refine Ax 1 hG Y Y Y Y Y Y Y ?_ | refine Ax 2 hG Y Y Y Y Y Y Y ?_)
      | refine r_q hG Y Y Y ?_))
    | (show AL _ _ _ _ _ _ _ _; first | refine Bd Y Y Y ?_ | (refine Al ?_; first | show AW _ _ _ _ _ _ | show ∃ x', _ < _ ∧ _)) | (show AW _ _ (.seq _ _) _ _ _; refine Af ?_; intro Q1) | (show AW _ _ (.region _ _ false) _ _ _; refine Ad ?_; intro O1) | (show AW _ _ (.cond _ _ _) _ _ _; first | refine Ai Y ?_ | refine Ah Y ?_) | (show AW _ _ (.skip) _ _ _; refine Ag ?_; first | show AW _ _ _ _ _ _ | show ∃ x', _ < _ ∧ _) | (show AW _ _ (.block _ _) _ _ _; refine Aw ?_; intro Q1) | (show AW _ _ (.ret) _ _ _; refine Av ?_; try dsimp only [Ar, Aa, Ap, Ab]) | fail)
      refine Ag ?_
      dsimp (config := { zetaDelta := true }) only [Ar, Aa, Ap, Ab]
      apply B3
      · exact A3
      · exact (List.Sublist.cons_cons _ (List.Sublist.cons_cons _ .slnil))
      · exact .refl _
      · rfl
      · exact ⟨by rw [hF], by rw [hF]; exact ⟨_, _, _, rfl, .nil 2, .nil 1, .nil 1, rfl⟩⟩
    · unfold zeroKC
      refine A5 (N := 107) (rs := []) hG Try.func19 rfl rfl rfl rfl rfl ?_
      repeat' (first
    | ((show AL _ _ _ _ _ _ _ _; refine Ac Y ?_); (first
      | (show AOp _ _ ⟨_, .move _, _, _, _, _⟩ _ _ _; refine Ao hG Y Y ?_)
      | (show AOp _ _ ⟨_, .assign _, _, _, _, _⟩ _ _ _; refine A1 hG Y Y ?_)
      | (show AOp _ _ ⟨_, .binOp _ _ _ _ _, _, _, _, _⟩ _ _ _; first | refine Au hG Y Y Y Y Y (by omega) ?_ | refine As hG Y Y Y Y Y (by omega) ?_ | (refine Aq hG Y Y Y Y Y (fun h => ?_) (fun h => ?_)))
      | (show AOp _ _ ⟨_, .load _ _, _, _, _, _⟩ _ _ _; first | refine Aj 0 hG Y Y Y Y ?_ | refine Aj 1 hG Y Y Y Y ?_ | refine Aj 2 hG Y Y Y Y ?_)
      | (show AOp _ _ ⟨_, .convert _ _ _, _, _, _, _⟩ _ _ _; first | refine A4 hG Y Y Y Y Y (by omega) ?_ | refine Bc hG Y Y Y Y Y ?_)
      | (show AOp _ _ ⟨_, .store _ _ _, _, _, _, _⟩ _ _ _; first | refine Ax 0 hG Y Y Y Y Y Y Y ?_ | refine Ax 1 hG Y Y Y Y Y Y Y ?_ | refine Ax 2 hG Y Y Y Y Y Y Y ?_)
      | refine r_q hG Y Y Y ?_))
    | (show AL _ _ _ _ _ _ _ _; first | refine Bd Y Y Y ?_ | (refine Al ?_; first | show AW _ _ _ _ _ _ | show ∃ x', _ < _ ∧ _)) | (show AW _ _ (.seq _ _) _ _ _; refine Af ?_; intro Q1) | (show AW _ _ (.region _ _ false) _ _ _; refine Ad ?_; intro O1) | (show AW _ _ (.cond _ _ _) _ _ _; first | refine Ai Y ?_ | refine Ah Y ?_) | (show AW _ _ (.skip) _ _ _; refine Ag ?_; first | show AW _ _ _ _ _ _ | show ∃ x', _ < _ ∧ _) | (show AW _ _ (.block _ _) _ _ _; refine Aw ?_; intro Q1) | (show AW _ _ (.ret) _ _ _; refine Av ?_; try dsimp only [Ar, Aa, Ap, Ab]) | fail)
      refine Ag ?_
      dsimp (config := { zetaDelta := true }) only [Ar, Aa, Ap, Ab]
      apply B3
      · exact A3
      · exact (List.Sublist.cons_cons _ (List.Sublist.cons_cons _ .slnil))
      · exact .refl _
      · rfl
      · exact ⟨by rw [hF], by rw [hF]; exact ⟨_, _, _, rfl, .nil 2, .nil 1, .nil 1, rfl⟩⟩
    · unfold zeroKC
      refine A5 (N := 107) (rs := []) hG Try.func19 rfl rfl rfl rfl rfl ?_
      repeat' (first
    | ((show AL _ _ _ _ _ _ _ _; refine Ac Y ?_); (first
      | (show AOp _ _ ⟨_, .move _, _, _, _, _⟩ _ _ _; refine Ao hG Y Y ?_)
      | (show AOp _ _ ⟨_, .assign _, _, _, _, _⟩ _ _ _; refine A1 hG Y Y ?_)
      | (show AOp _ _ ⟨_, .binOp _ _ _ _ _, _, _, _, _⟩ _ _ _; first | refine Au hG Y Y Y Y Y (by omega) ?_ | refine As hG Y Y Y Y Y (by omega) ?_ | (refine Aq hG Y Y Y Y Y (fun h => ?_) (fun h => ?_)))
      | (show AOp _ _ ⟨_, .load _ _, _, _, _, _⟩ _ _ _; first | refine Aj 0 hG Y Y Y Y ?_ | refine Aj 1 hG Y Y Y Y ?_ | refine Aj 2 hG Y Y Y Y ?_)
      | (show AOp _ _ ⟨_, .convert _ _ _, _, _, _, _⟩ _ _ _; first | refine A4 hG Y Y Y Y Y (by omega) ?_ | refine Bc hG Y Y Y Y Y ?_)
      | (show AOp _ _ ⟨_, .store _ _ _, _, _, _, _⟩ _ _ _; first | refine Ax 0 hG Y Y Y Y Y Y Y ?_ | refine Ax 1 hG Y Y Y Y Y Y Y ?_ | refine Ax 2 hG Y Y Y Y Y Y Y ?_)
      | refine r_q hG Y Y Y ?_))
    | (show AL _ _ _ _ _ _ _ _; first | refine Bd Y Y Y ?_ | (refine Al ?_; first | show AW _ _ _ _ _ _ | show ∃ x', _ < _ ∧ _)) | (show AW _ _ (.seq _ _) _ _ _; refine Af ?_; intro Q1) | (show AW _ _ (.region _ _ false) _ _ _; refine Ad ?_; intro O1) | (show AW _ _ (.cond _ _ _) _ _ _; first | refine Ai Y ?_ | refine Ah Y ?_) | (show AW _ _ (.skip) _ _ _; refine Ag ?_; first | show AW _ _ _ _ _ _ | show ∃ x', _ < _ ∧ _) | (show AW _ _ (.block _ _) _ _ _; refine Aw ?_; intro Q1) | (show AW _ _ (.ret) _ _ _; refine Av ?_; try dsimp only [Ar, Aa, Ap, Ab]) | fail)
      refine Ag ?_
      dsimp (config := { zetaDelta := true }) only [Ar, Aa, Ap, Ab]
      apply B3
      · exact A3
      · exact (List.Sublist.cons_cons _ (List.Sublist.cons_cons _ .slnil))
      · exact .refl _
      · rfl
      · exact ⟨by rw [hF], by rw [hF]; exact ⟨_, _, _, rfl, .nil 2, .nil 1, .nil 1, rfl⟩⟩
  by_cases he : r.e = 0
  · have hF := by have := @Bf.eq_1 op r; rw [if_neg k0, if_neg k1, if_neg k2, if_neg k3, if_neg k4, if_neg k5, if_neg k6, if_neg k7, if_pos he] at this; exact this
    unfold zeroKC
    refine A5 (N := 107) (rs := []) hG Try.func19 rfl rfl rfl rfl rfl ?_
    repeat' (first
    | ((show AL _ _ _ _ _ _ _ _; refine Ac Y ?_); (first
      | (show AOp _ _ ⟨_, .move _, _, _, _, _⟩ _ _ _; refine Ao hG Y Y ?_)
      | (show AOp _ _ ⟨_, .assign _, _, _, _, _⟩ _ _ _; refine A1 hG Y Y ?_)
      | (show AOp _ _ ⟨_, .binOp _ _ _ _ _, _, _, _, _⟩ _ _ _; first | refine Au hG Y Y Y Y Y (by omega) ?_ | refine As hG Y Y Y Y Y (by omega) ?_ | (refine Aq hG Y Y Y Y Y (fun h => ?_) (fun h => ?_)))
      | (show AOp _ _ ⟨_, .load _ _, _, _, _, _⟩ _ _ _; first | refine Aj 0 hG Y Y Y Y ?_ | refine Aj 1 hG Y Y Y Y ?_ | refine Aj 2 hG Y Y Y Y ?_)
      | (show AOp _ _ ⟨_, .convert _ _ _, _, _, _, _⟩ _ _ _; first | refine A4 hG Y Y Y Y Y (by omega) ?_ | refine Bc hG Y Y Y Y Y ?_)
      | (show AOp _ _ ⟨_, .store _ _ _, _, _, _, _⟩ _ _ _; first | refine Ax 0 hG Y Y Y Y Y Y Y ?_ | refine Ax 1 hG Y Y Y Y Y Y Y ?_ | refine Ax 2 hG Y Y Y Y Y Y Y ?_)
      | refine r_q hG Y Y Y ?_))
    | (show AL _ _ _ _ _ _ _ _; first | refine Bd Y Y Y ?_ | (refine Al ?_; first | show AW _ _ _ _ _ _ | show ∃ x', _ < _ ∧ _)) | (show AW _ _ (.seq _ _) _ _ _; refine Af ?_; intro Q1) | (show AW _ _ (.region _ _ false) _ _ _; refine Ad ?_; intro O1) | (show AW _ _ (.cond _ _ _) _ _ _; first | refine Ai Y ?_ | refine Ah Y ?_) | (show AW _ _ (.skip) _ _ _; refine Ag ?_; first | show AW _ _ _ _ _ _ | show ∃ x', _ < _ ∧ _) | (show AW _ _ (.block _ _) _ _ _; refine Aw ?_; intro Q1) | (show AW _ _ (.ret) _ _ _; refine Av ?_; try dsimp only [Ar, Aa, Ap, Ab]) | fail)
    refine Al ?_
    dsimp (config := { zetaDelta := true }) only [Ar, Aa, Ap, Ab]
    apply B3
    · exact A3
    · exact (List.Sublist.cons_cons _ (List.Sublist.cons_cons _ .slnil))
    · exact .refl _
    · rfl
    · exact ⟨by rw [hF]; rfl, by rw [hF]; exact ⟨_, _, _, rfl, .nil 2, .nil 1, .nil 1, rfl⟩⟩
  · have hF := by have := @Bf.eq_1 op r; rw [if_neg k0, if_neg k1, if_neg k2, if_neg k3, if_neg k4, if_neg k5, if_neg k6, if_neg k7, if_neg he] at this; exact this
    unfold zeroKC
    refine A5 (N := 107) (rs := []) hG Try.func19 rfl rfl rfl rfl rfl ?_
    repeat' (first
    | ((show AL _ _ _ _ _ _ _ _; refine Ac Y ?_); (first
      | (show AOp _ _ ⟨_, .move _, _, _, _, _⟩ _ _ _; refine Ao hG Y Y ?_)
      | (show AOp _ _ ⟨_, .assign _, _, _, _, _⟩ _ _ _; refine A1 hG Y Y ?_)
      | (show AOp _ _ ⟨_, .binOp _ _ _ _ _, _, _, _, _⟩ _ _ _; first | refine Au hG Y Y Y Y Y (by omega) ?_ | refine As hG Y Y Y Y Y (by omega) ?_ | (refine Aq hG Y Y Y Y Y (fun h => ?_) (fun h => ?_)))
      | (show AOp _ _ ⟨_, .load _ _, _, _, _, _⟩ _ _ _; first | refine Aj 0 hG Y Y Y Y ?_ | refine Aj 1 hG Y Y Y Y ?_ | refine Aj 2 hG Y Y Y Y ?_)
      | (show AOp _ _ ⟨_, .convert _ _ _, _, _, _, _⟩ _ _ _; first | refine A4 hG Y Y Y Y Y (by omega) ?_ | refine Bc hG Y Y Y Y Y ?_)
      | (show AOp _ _ ⟨_, .store _ _ _, _, _, _, _⟩ _ _ _; first | refine Ax 0 hG Y Y Y Y Y Y Y ?_ | refine Ax 1 hG Y Y Y Y Y Y Y ?_ | refine Ax 2 hG Y Y Y Y Y Y Y ?_)
      | refine r_q hG Y Y Y ?_))
    | (show AL _ _ _ _ _ _ _ _; first | refine Bd Y Y Y ?_ | (refine Al ?_; first | show AW _ _ _ _ _ _ | show ∃ x', _ < _ ∧ _)) | (show AW _ _ (.seq _ _) _ _ _; refine Af ?_; intro Q1) | (show AW _ _ (.region _ _ false) _ _ _; refine Ad ?_; intro O1) | (show AW _ _ (.cond _ _ _) _ _ _; first | refine Ai Y ?_ | refine Ah Y ?_) | (show AW _ _ (.skip) _ _ _; refine Ag ?_; first | show AW _ _ _ _ _ _ | show ∃ x', _ < _ ∧ _) | (show AW _ _ (.block _ _) _ _ _; refine Aw ?_; intro Q1) | (show AW _ _ (.ret) _ _ _; refine Av ?_; try dsimp only [Ar, Aa, Ap, Ab]) | fail)
    refine Ag ?_
    dsimp (config := { zetaDelta := true }) only [Ar, Aa, Ap, Ab]
    apply B3
    · exact A3
    · exact (List.Sublist.cons_cons _ (List.Sublist.cons_cons _ .slnil))
    · exact .refl _
    · rfl
    · exact ⟨by rw [hF], by rw [hF]; exact ⟨_, _, _, rfl, .nil 2, .nil 1, .nil 1, rfl⟩⟩
def takeK (b : List UInt8) : CO × Int :=
  if (rdN ⟨b, 0⟩ 1).2.e ≠ 0 then (zeroK, (rdN ⟨b, 0⟩ 1).2.e)
  else if (Bf (rdN ⟨b, 0⟩ 1).1 (rdN ⟨b, 0⟩ 1).2).2.e ≠ 0 then (zeroK, (Bf (rdN ⟨b, 0⟩ 1).1 (rdN ⟨b, 0⟩ 1).2).2.e)
  else if 0 < (Bf (rdN ⟨b, 0⟩ 1).1 (rdN ⟨b, 0⟩ 1).2).2.b.length then (zeroK, 2)
  else ((Bf (rdN ⟨b, 0⟩ 1).1 (rdN ⟨b, 0⟩ 1).2).1, 0)
structure TkK where
  e : Int
  i : Nat
  p : Nat
  j : Nat
  b : List UInt8
  ds : List T
theorem zeroK_wk : Wk (.agg (zeroKC 0)) zeroK.t := Wk.aggL (wkc (.refl _) (wkc (.refl _) (wkc (.refl _) (wkc (.refl _) (wkc (.refl _) (wkc (.refl _) (wkc (.refl _) (wkc (.nil 2) (wkc (.nil 1) (wkc (.nil 1) (wkc (.nil 1) (wkc (.nil 1) (wkc (.nil 1) trivial)))))))))))))
set_option maxHeartbeats 1000000 in
theorem abi1_Take {x : T} {b : List UInt8} (hx : bytesT x = some b) (hl : b.length ≤ 4294967296) : Ts.Pure Try.prog 8 [x] (.tup [(takeK b).1.t, .int .i64 (takeK b).2]) := by
  refine Pure.weak (us := [sT b]) ?_ (wk1 (bytesT_wk hx))
  intro off
  refine A5 (N := 40) (rs := [.cell 2 32, .tmp 3]) hG Try.func8 rfl rfl rfl rfl rfl ?_
  repeat' (first
    | ((first | (show AL _ _ _ _ _ _ _ _; refine Ac Y ?_) | (show DL _ _ _ _ _ _ _; refine' Be Y Y (fun K kk => ?_) ?_; try (show Go.Ts.T; rotate_left))); (first
      | (show AOp _ _ ⟨_, .move _, _, _, _, _⟩ _ _ _; refine Ao hG Y Y ?_)
      | (show AOp _ _ ⟨_, .assign _, _, _, _, _⟩ _ _ _; refine A1 hG Y Y ?_)
      | (show AOp _ _ ⟨_, .call ⟨.builtin .len, _, _⟩, _, _, _, _⟩ _ _ _; first | refine Bb hG Y Y Y Y ?_ | refine Bi hG Y Y Y Y Y ?_)
      | (show AOp _ _ ⟨_, .binOp _ _ _ _ _, _, _, _, _⟩ _ _ _; first | refine Au hG Y Y Y Y Y (by omega) ?_ | refine As hG Y Y Y Y Y (by omega) ?_ | ((fail_if_success have := kk); refine Aq hG Y Y Y Y Y (fun h => ?_) (fun h => ?_)))
      | (show AOp _ _ ⟨_, .load _ _, _, _, _, _⟩ _ _ _; first | refine Aj 0 hG Y Y Y Y ?_ | refine Aj 1 hG Y Y Y Y ?_ | refine Aj 2 hG Y Y Y Y ?_ | refine Aj 3 hG Y Y Y Y ?_)
      | (show AOp _ _ ⟨_, .convert _ _ _, _, _, _, _⟩ _ _ _; first | refine A4 hG Y Y Y Y Y (by omega) ?_ | refine Bc hG Y Y Y Y Y ?_)
      | (show AOp _ _ ⟨_, .build _ _, _, _, _, _⟩ _ _ _; refine B0 hG Y Y Y Y Y ?_)
      | (show AOp _ _ ⟨_, .box _ _, _, _, _, _⟩ _ _ _; refine r_box hG Y Y Y (fun i => ?_))
      | (show AOp _ _ ⟨_, .alloc _, _, _, _, _⟩ _ _ _; refine Bg hG Y Y (fun i => ?_))
      | (show AOp _ _ ⟨_, .store _ _ _, _, _, _, _⟩ _ _ _; first | refine Ax 0 hG Y Y Y Y Y Y Y ?_ | refine Ax 1 hG Y Y Y Y Y Y Y ?_ | refine Ax 2 hG Y Y Y Y Y Y Y ?_ | refine Ax 3 hG Y Y Y Y Y Y Y ?_)
      | refine r_q hG Y Y Y ?_); try exact kk)
    | (show AL _ _ _ _ _ _ _ _; first | refine Bd Y Y Y ?_ | (refine Al ?_; first | show AW _ _ _ _ _ _ | show ∃ x', _ < _ ∧ _)) | (show AW _ _ (.seq _ _) _ _ _; refine Af ?_; intro Q1) | (show AW _ _ (.region _ _ false) _ _ _; refine Ad ?_; intro O1) | (show AW _ _ (.cond _ _ _) _ _ _; first | refine Ai Y ?_ | refine Ah Y ?_) | (show AW _ _ (.skip) _ _ _; refine Ag ?_; first | show AW _ _ _ _ _ _ | show ∃ x', _ < _ ∧ _) | (show AW _ _ (.goto _) _ _ _; refine Bz ?_; try dsimp only [Ar, Aa, Ap, Ab]) | (show AW _ _ (.ret) _ _ _; refine Av ?_; try dsimp only [Ar, Aa, Ap, Ab])
    | (show DL _ _ _ _ _ _ _; refine dl_d Y Y (fun K kt kf => Aq hG Y Y Y Y Y kt kf) (fun h => ?_) (fun h => ?_))
    | (show DL _ _ _ _ _ _ _; refine dl_s Y Y Y ?_) | (show DL _ _ _ _ _ _ _; refine Bk ?_; first | show AW _ _ _ _ _ _ | show ∃ x', _ < _ ∧ _) | (show AW _ _ (.region _ _ true) _ _ _; refine A8 mix (by kernel_rfl) ?_; intro O1) | fail)
  refine aw_scope' 0 rfl (X := { x : TkK // takeK b = (zeroK, x.e) }) (fun x => [(2, .ptr x.1.p 0), (4, .ptr x.1.i 0)]) (fun x => ⟨[(x.1.i, .cells [sT x.1.b, .int .i64 x.1.e]), (x.1.j, .cells x.1.ds), (x.1.p, .cells (zeroKC 0))], [], off, none⟩) (fun _ => 0) ?_ ?_
  · rintro ⟨⟨e, i, p, j, bb, ds⟩, hx⟩
    dsimp only at hx ⊢
    unfold zeroKC
    repeat' (first
    | ((first | (show AL _ _ _ _ _ _ _ _; refine Ac Y ?_) | (show DL _ _ _ _ _ _ _; refine' Be Y Y (fun K kk => ?_) ?_; try (show Go.Ts.T; rotate_left))); (first
      | (show AOp _ _ ⟨_, .move _, _, _, _, _⟩ _ _ _; refine Ao hG Y Y ?_)
      | (show AOp _ _ ⟨_, .assign _, _, _, _, _⟩ _ _ _; refine A1 hG Y Y ?_)
      | (show AOp _ _ ⟨_, .call ⟨.builtin .len, _, _⟩, _, _, _, _⟩ _ _ _; first | refine Bb hG Y Y Y Y ?_ | refine Bi hG Y Y Y Y Y ?_)
      | (show AOp _ _ ⟨_, .binOp _ _ _ _ _, _, _, _, _⟩ _ _ _; first | refine Au hG Y Y Y Y Y (by omega) ?_ | refine As hG Y Y Y Y Y (by omega) ?_ | ((fail_if_success have := kk); refine Aq hG Y Y Y Y Y (fun h => ?_) (fun h => ?_)))
      | (show AOp _ _ ⟨_, .load _ _, _, _, _, _⟩ _ _ _; first | refine Aj 0 hG Y Y Y Y ?_ | refine Aj 1 hG Y Y Y Y ?_ | refine Aj 2 hG Y Y Y Y ?_ | refine Aj 3 hG Y Y Y Y ?_)
      | (show AOp _ _ ⟨_, .convert _ _ _, _, _, _, _⟩ _ _ _; first | refine A4 hG Y Y Y Y Y (by omega) ?_ | refine Bc hG Y Y Y Y Y ?_)
      | (show AOp _ _ ⟨_, .build _ _, _, _, _, _⟩ _ _ _; refine B0 hG Y Y Y Y Y ?_)
      | (show AOp _ _ ⟨_, .box _ _, _, _, _, _⟩ _ _ _; refine r_box hG Y Y Y (fun i => ?_))
      | (show AOp _ _ ⟨_, .alloc _, _, _, _, _⟩ _ _ _; refine Bg hG Y Y (fun i => ?_))
      | (show AOp _ _ ⟨_, .store _ _ _, _, _, _, _⟩ _ _ _; first | refine Ax 0 hG Y Y Y Y Y Y Y ?_ | refine Ax 1 hG Y Y Y Y Y Y Y ?_ | refine Ax 2 hG Y Y Y Y Y Y Y ?_ | refine Ax 3 hG Y Y Y Y Y Y Y ?_)
      | refine r_q hG Y Y Y ?_); try exact kk)
    | (show AL _ _ _ _ _ _ _ _; first | refine Bd Y Y Y ?_ | (refine Al ?_; first | show AW _ _ _ _ _ _ | show ∃ x', _ < _ ∧ _)) | (show AW _ _ (.seq _ _) _ _ _; refine Af ?_; intro Q1) | (show AW _ _ (.region _ _ false) _ _ _; refine Ad ?_; intro O1) | (show AW _ _ (.cond _ _ _) _ _ _; first | refine Ai Y ?_ | refine Ah Y ?_) | (show AW _ _ (.skip) _ _ _; refine Ag ?_; first | show AW _ _ _ _ _ _ | show ∃ x', _ < _ ∧ _) | (show AW _ _ (.goto _) _ _ _; refine Bz ?_; try dsimp only [Ar, Aa, Ap, Ab]) | (show AW _ _ (.ret) _ _ _; refine Av ?_; try dsimp only [Ar, Aa, Ap, Ab])
    | (show DL _ _ _ _ _ _ _; refine dl_d Y Y (fun K kt kf => Aq hG Y Y Y Y Y kt kf) (fun h => ?_) (fun h => ?_))
    | (show DL _ _ _ _ _ _ _; refine dl_s Y Y Y ?_) | (show DL _ _ _ _ _ _ _; refine Bk ?_; first | show AW _ _ _ _ _ _ | show ∃ x', _ < _ ∧ _) | (show AW _ _ (.region _ _ true) _ _ _; (fail_if_success show AW _ _ (.region 10 _ _) _ _ _); refine A8 mix (by kernel_rfl) ?_; intro O1) | fail)
    refine aw_drawE' (m := 7) [5] (fun σ => ∃ c, σ = ⟨[(i, .cells [sT bb, .int .i64 e]), (j, .cells ds), (p, .cells c)], [], off, none⟩) mix rfl (by repeat (first | exact Sp.zero _ | apply Sp.succ)) ?_; intro O1 F1 Z1 Q2
    repeat' (first
    | (refine' dq_cons Y Y Y (fun σ hσ K kk => ?_) ?_; (try (show Go.Ts.T; rotate_left)); (obtain ⟨R, rfl⟩ := hσ); (first
      | (show AOp _ _ ⟨_, .move _, _, _, _, _⟩ _ _ _; refine Ao hG Y Y ?_)
      | (show AOp _ _ ⟨_, .assign _, _, _, _, _⟩ _ _ _; refine A1 hG Y Y ?_)
      | (show AOp _ _ ⟨_, .call ⟨.builtin .len, _, _⟩, _, _, _, _⟩ _ _ _; first | refine Bb hG Y Y Y Y ?_ | refine Bi hG Y Y Y Y Y ?_)
      | (show AOp _ _ ⟨_, .binOp _ _ _ _ _, _, _, _, _⟩ _ _ _; first | refine Au hG Y Y Y Y Y (by omega) ?_ | refine As hG Y Y Y Y Y (by omega) ?_)
      | (show AOp _ _ ⟨_, .load _ _, _, _, _, _⟩ _ _ _; first | refine Aj 0 hG Y Y Y Y ?_ | refine Aj 1 hG Y Y Y Y ?_ | refine Aj 2 hG Y Y Y Y ?_ | refine Aj 3 hG Y Y Y Y ?_)
      | (show AOp _ _ ⟨_, .convert _ _ _, _, _, _, _⟩ _ _ _; first | refine A4 hG Y Y Y Y Y (by omega) ?_ | refine Bc hG Y Y Y Y Y ?_)
      | (show AOp _ _ ⟨_, .build _ _, _, _, _, _⟩ _ _ _; refine B0 hG Y Y Y Y Y ?_)
      | (show AOp _ _ ⟨_, .box _ _, _, _, _, _⟩ _ _ _; refine r_box hG Y Y Y (fun i => ?_))
      | (show AOp _ _ ⟨_, .alloc _, _, _, _, _⟩ _ _ _; refine Bg hG Y Y (fun i => ?_))
      | (show AOp _ _ ⟨_, .store _ _ _, _, _, _, _⟩ _ _ _; first | refine Ax 0 hG Y Y Y Y Y Y Y ?_ | refine Ax 1 hG Y Y Y Y Y Y Y ?_ | refine Ax 2 hG Y Y Y Y Y Y Y ?_ | refine Ax 3 hG Y Y Y Y Y Y Y ?_)
      | refine r_q hG Y Y Y ?_); exact kk)
    | refine dq_d Y Y Y (fun σ hσ K kt kf => by obtain ⟨R, rfl⟩ := hσ; exact Aq hG Y Y Y Y Y kt kf) (fun h => ?_) (fun h => ?_)
    | refine dq_d Y Y Y (fun σ hσ K kt kf => by obtain ⟨R, rfl⟩ := hσ; exact r_str hG Y Y Y Y kt kf) (fun h => ?_) (fun h => ?_)
    | refine dq_s Y Y Y Y ?_ | refine dq_e Y ?_ | (refine dq_nil ?_; show EL _ _ _ _ _ _ _ _ _) | refine el_s ⟨_, Y⟩ Y Y Y Y ?_
    | ((first | refine el_cons ⟨_, Y⟩ Y Y Y (fun K ke => ?_) | refine el_consN ⟨_, Y⟩ Y Y Y (fun K ke => ?_)); (first
      | (show AOp _ _ ⟨_, .move _, _, _, _, _⟩ _ _ _; refine Ao hG Y Y ?_)
      | (show AOp _ _ ⟨_, .assign _, _, _, _, _⟩ _ _ _; refine A1 hG Y Y ?_)
      | (show AOp _ _ ⟨_, .call ⟨.builtin .len, _, _⟩, _, _, _, _⟩ _ _ _; first | refine Bb hG Y Y Y Y ?_ | refine Bi hG Y Y Y Y Y ?_)
      | (show AOp _ _ ⟨_, .binOp _ _ _ _ _, _, _, _, _⟩ _ _ _; first | refine Au hG Y Y Y Y Y (by omega) ?_ | refine As hG Y Y Y Y Y (by omega) ?_)
      | (show AOp _ _ ⟨_, .load _ _, _, _, _, _⟩ _ _ _; first | refine Aj 0 hG Y Y Y Y ?_ | refine Aj 1 hG Y Y Y Y ?_ | refine Aj 2 hG Y Y Y Y ?_ | refine Aj 3 hG Y Y Y Y ?_)
      | (show AOp _ _ ⟨_, .convert _ _ _, _, _, _, _⟩ _ _ _; first | refine A4 hG Y Y Y Y Y (by omega) ?_ | refine Bc hG Y Y Y Y Y ?_)
      | (show AOp _ _ ⟨_, .build _ _, _, _, _, _⟩ _ _ _; refine B0 hG Y Y Y Y Y ?_)
      | (show AOp _ _ ⟨_, .box _ _, _, _, _, _⟩ _ _ _; refine r_box hG Y Y Y (fun i => ?_))
      | (show AOp _ _ ⟨_, .alloc _, _, _, _, _⟩ _ _ _; refine Bg hG Y Y (fun i => ?_))
      | (show AOp _ _ ⟨_, .store _ _ _, _, _, _, _⟩ _ _ _; first | refine Ax 0 hG Y Y Y Y Y Y Y ?_ | refine Ax 1 hG Y Y Y Y Y Y Y ?_ | refine Ax 2 hG Y Y Y Y Y Y Y ?_ | refine Ax 3 hG Y Y Y Y Y Y Y ?_)
      | refine r_q hG Y Y Y ?_); refine ke _ _ ?_)
    | (refine el_nil ⟨_, Y⟩ ?_; show AL _ _ _ _ _ _ _ _) | fail)
    refine el_consN ⟨_, rfl⟩ rfl rfl rfl (fun K ke => ?_)
    refine Ax 2 hG rfl rfl rfl rfl rfl rfl rfl ?_
    refine ke (.tup []) _ ?_
    refine el_nil ⟨_, rfl⟩ ?_
    show AL _ _ _ _ _ _ _ _
    repeat' (first
    | ((first | (show AL _ _ _ _ _ _ _ _; refine Ac Y ?_) | (show DL _ _ _ _ _ _ _; refine' Be Y Y (fun K kk => ?_) ?_; try (show Go.Ts.T; rotate_left))); (first
      | (show AOp _ _ ⟨_, .move _, _, _, _, _⟩ _ _ _; refine Ao hG Y Y ?_)
      | (show AOp _ _ ⟨_, .assign _, _, _, _, _⟩ _ _ _; refine A1 hG Y Y ?_)
      | (show AOp _ _ ⟨_, .call ⟨.builtin .len, _, _⟩, _, _, _, _⟩ _ _ _; first | refine Bb hG Y Y Y Y ?_ | refine Bi hG Y Y Y Y Y ?_)
      | (show AOp _ _ ⟨_, .binOp _ _ _ _ _, _, _, _, _⟩ _ _ _; first | refine Au hG Y Y Y Y Y (by omega) ?_ | refine As hG Y Y Y Y Y (by omega) ?_ | ((fail_if_success have := kk); refine Aq hG Y Y Y Y Y (fun h => ?_) (fun h => ?_)))
      | (show AOp _ _ ⟨_, .load _ _, _, _, _, _⟩ _ _ _; first | refine Aj 0 hG Y Y Y Y ?_ | refine Aj 1 hG Y Y Y Y ?_ | refine Aj 2 hG Y Y Y Y ?_ | refine Aj 3 hG Y Y Y Y ?_)
      | (show AOp _ _ ⟨_, .convert _ _ _, _, _, _, _⟩ _ _ _; first | refine A4 hG Y Y Y Y Y (by omega) ?_ | refine Bc hG Y Y Y Y Y ?_)
      | (show AOp _ _ ⟨_, .build _ _, _, _, _, _⟩ _ _ _; refine B0 hG Y Y Y Y Y ?_)
      | (show AOp _ _ ⟨_, .box _ _, _, _, _, _⟩ _ _ _; refine r_box hG Y Y Y (fun i => ?_))
      | (show AOp _ _ ⟨_, .alloc _, _, _, _, _⟩ _ _ _; refine Bg hG Y Y (fun i => ?_))
      | (show AOp _ _ ⟨_, .store _ _ _, _, _, _, _⟩ _ _ _; first | refine Ax 0 hG Y Y Y Y Y Y Y ?_ | refine Ax 1 hG Y Y Y Y Y Y Y ?_ | refine Ax 2 hG Y Y Y Y Y Y Y ?_ | refine Ax 3 hG Y Y Y Y Y Y Y ?_)
      | refine r_q hG Y Y Y ?_); try exact kk)
    | (show AL _ _ _ _ _ _ _ _; first | refine Bd Y Y Y ?_ | (refine Al ?_; first | show AW _ _ _ _ _ _ | show ∃ x', _ < _ ∧ _)) | (show AW _ _ (.seq _ _) _ _ _; refine Af ?_; intro Q1) | (show AW _ _ (.region _ _ false) _ _ _; refine Ad ?_; intro O1) | (show AW _ _ (.cond _ _ _) _ _ _; first | refine Ai Y ?_ | refine Ah Y ?_) | (show AW _ _ (.skip) _ _ _; refine Ag ?_; first | show AW _ _ _ _ _ _ | show ∃ x', _ < _ ∧ _) | (show AW _ _ (.goto _) _ _ _; refine Bz ?_; try dsimp only [Ar, Aa, Ap, Ab]) | (show AW _ _ (.ret) _ _ _; refine Av ?_; try dsimp only [Ar, Aa, Ap, Ab])
    | (show DL _ _ _ _ _ _ _; refine dl_d Y Y (fun K kt kf => Aq hG Y Y Y Y Y kt kf) (fun h => ?_) (fun h => ?_))
    | (show DL _ _ _ _ _ _ _; refine dl_s Y Y Y ?_) | (show DL _ _ _ _ _ _ _; refine Bk ?_; first | show AW _ _ _ _ _ _ | show ∃ x', _ < _ ∧ _) | (show AW _ _ (.region _ _ true) _ _ _; refine A8 mix (by kernel_rfl) ?_; intro O1) | fail)
    refine A9 (res_cell 2 rfl rfl rfl (A2 rfl A3)) ?_ rfl
    rw [hx]
    exact Wk.tupL (wk2 zeroK_wk (.refl _))
  · intro key
    have l1 := rdN_len ⟨b, 0⟩ 1
    have v1 : (rdN ⟨b, 0⟩ 1).1 < 256 := rdN_lt _ 1
    have n1 := a1_number (r := ⟨b, 0⟩) (n := 1) (m := 1) rfl (by omega) hl
    have hk1 := @takeK.eq_1 b
    repeat' (first
    | ((first | (show AL _ _ _ _ _ _ _ _; refine Ac Y ?_) | (show DL _ _ _ _ _ _ _; refine' Be Y Y (fun K kk => ?_) ?_; try (show Go.Ts.T; rotate_left))); (first
      | (show AOp _ _ ⟨_, .move _, _, _, _, _⟩ _ _ _; refine Ao hG Y Y ?_)
      | (show AOp _ _ ⟨_, .assign _, _, _, _, _⟩ _ _ _; refine A1 hG Y Y ?_)
      | (show AOp _ _ ⟨_, .call ⟨.builtin .len, _, _⟩, _, _, _, _⟩ _ _ _; first | refine Bb hG Y Y Y Y ?_ | refine Bi hG Y Y Y Y Y ?_)
      | (show AOp _ _ ⟨_, .binOp _ _ _ _ _, _, _, _, _⟩ _ _ _; first | refine Au hG Y Y Y Y Y (by omega) ?_ | refine As hG Y Y Y Y Y (by omega) ?_ | ((fail_if_success have := kk); refine Aq hG Y Y Y Y Y (fun h => ?_) (fun h => ?_)))
      | (show AOp _ _ ⟨_, .load _ _, _, _, _, _⟩ _ _ _; first | refine Aj 0 hG Y Y Y Y ?_ | refine Aj 1 hG Y Y Y Y ?_ | refine Aj 2 hG Y Y Y Y ?_ | refine Aj 3 hG Y Y Y Y ?_)
      | (show AOp _ _ ⟨_, .convert _ _ _, _, _, _, _⟩ _ _ _; first | refine A4 hG Y Y Y Y Y (by omega) ?_ | refine Bc hG Y Y Y Y Y ?_)
      | (show AOp _ _ ⟨_, .build _ _, _, _, _, _⟩ _ _ _; refine B0 hG Y Y Y Y Y ?_)
      | (show AOp _ _ ⟨_, .box _ _, _, _, _, _⟩ _ _ _; refine r_box hG Y Y Y (fun i => ?_))
      | (show AOp _ _ ⟨_, .alloc _, _, _, _, _⟩ _ _ _; refine Bg hG Y Y (fun i => ?_))
      | (show AOp _ _ ⟨_, .store _ _ _, _, _, _, _⟩ _ _ _; first | refine Ax 0 hG Y Y Y Y Y Y Y ?_ | refine Ax 1 hG Y Y Y Y Y Y Y ?_ | refine Ax 2 hG Y Y Y Y Y Y Y ?_ | refine Ax 3 hG Y Y Y Y Y Y Y ?_)
      | refine r_q hG Y Y Y ?_); try exact kk)
    | (show AL _ _ _ _ _ _ _ _; first | refine Bd Y Y Y ?_ | (refine Al ?_; first | show AW _ _ _ _ _ _ | show ∃ x', _ < _ ∧ _)) | (show AW _ _ (.seq _ _) _ _ _; refine Af ?_; intro Q1) | (show AW _ _ (.region _ _ false) _ _ _; refine Ad ?_; intro O1) | (show AW _ _ (.cond _ _ _) _ _ _; first | refine Ai Y ?_ | refine Ah Y ?_) | (show AW _ _ (.skip) _ _ _; refine Ag ?_; first | show AW _ _ _ _ _ _ | show ∃ x', _ < _ ∧ _) | (show AW _ _ (.goto _) _ _ _; refine Bz ?_; try dsimp only [Ar, Aa, Ap, Ab]) | (show AW _ _ (.ret) _ _ _; refine Av ?_; try dsimp only [Ar, Aa, Ap, Ab])
    | (show DL _ _ _ _ _ _ _; refine dl_d Y Y (fun K kt kf => Aq hG Y Y Y Y Y kt kf) (fun h => ?_) (fun h => ?_))
    | (show DL _ _ _ _ _ _ _; refine dl_s Y Y Y ?_) | (show DL _ _ _ _ _ _ _; refine Bk ?_; first | show AW _ _ _ _ _ _ | show ∃ x', _ < _ ∧ _) | (show AW _ _ (.region _ _ true) _ _ _; refine A8 mix (by kernel_rfl) ?_; intro O1) | fail)
    refine Ac rfl (r_mut rfl rfl rfl rfl rfl (List.Perm.swap _ _ _) n1 (fun u9 cs' hr => ?_))
    obtain ⟨rfl, rfl⟩ := hr
    by_cases he : (rdN ⟨b, 0⟩ 1).2.e ≠ 0
    · have hT : takeK b = (zeroK, (rdN ⟨b, 0⟩ 1).2.e) := by rw [takeK, if_pos he]
      repeat' (first
    | ((first | (show AL _ _ _ _ _ _ _ _; refine Ac Y ?_) | (show DL _ _ _ _ _ _ _; refine' Be Y Y (fun K kk => ?_) ?_; try (show Go.Ts.T; rotate_left))); (first
      | (show AOp _ _ ⟨_, .move _, _, _, _, _⟩ _ _ _; refine Ao hG Y Y ?_)
      | (show AOp _ _ ⟨_, .assign _, _, _, _, _⟩ _ _ _; refine A1 hG Y Y ?_)
      | (show AOp _ _ ⟨_, .call ⟨.builtin .len, _, _⟩, _, _, _, _⟩ _ _ _; first | refine Bb hG Y Y Y Y ?_ | refine Bi hG Y Y Y Y Y ?_)
      | (show AOp _ _ ⟨_, .binOp _ _ _ _ _, _, _, _, _⟩ _ _ _; first | refine Au hG Y Y Y Y Y (by omega) ?_ | refine As hG Y Y Y Y Y (by omega) ?_ | ((fail_if_success have := kk); refine Aq hG Y Y Y Y Y (fun h => ?_) (fun h => ?_)))
      | (show AOp _ _ ⟨_, .load _ _, _, _, _, _⟩ _ _ _; first | refine Aj 0 hG Y Y Y Y ?_ | refine Aj 1 hG Y Y Y Y ?_ | refine Aj 2 hG Y Y Y Y ?_ | refine Aj 3 hG Y Y Y Y ?_)
      | (show AOp _ _ ⟨_, .convert _ _ _, _, _, _, _⟩ _ _ _; first | refine A4 hG Y Y Y Y Y (by omega) ?_ | refine Bc hG Y Y Y Y Y ?_)
      | (show AOp _ _ ⟨_, .build _ _, _, _, _, _⟩ _ _ _; refine B0 hG Y Y Y Y Y ?_)
      | (show AOp _ _ ⟨_, .box _ _, _, _, _, _⟩ _ _ _; refine r_box hG Y Y Y (fun i => ?_))
      | (show AOp _ _ ⟨_, .alloc _, _, _, _, _⟩ _ _ _; refine Bg hG Y Y (fun i => ?_))
      | (show AOp _ _ ⟨_, .store _ _ _, _, _, _, _⟩ _ _ _; first | refine Ax 0 hG Y Y Y Y Y Y Y ?_ | refine Ax 1 hG Y Y Y Y Y Y Y ?_ | refine Ax 2 hG Y Y Y Y Y Y Y ?_ | refine Ax 3 hG Y Y Y Y Y Y Y ?_)
      | refine r_q hG Y Y Y ?_); try exact kk)
    | (show AL _ _ _ _ _ _ _ _; first | refine Bd Y Y Y ?_ | (refine Al ?_; first | show AW _ _ _ _ _ _ | show ∃ x', _ < _ ∧ _)) | (show AW _ _ (.seq _ _) _ _ _; refine Af ?_; intro Q1) | (show AW _ _ (.region _ _ false) _ _ _; refine Ad ?_; intro O1) | (show AW _ _ (.cond _ _ _) _ _ _; first | refine Ai Y ?_ | refine Ah Y ?_) | (show AW _ _ (.skip) _ _ _; refine Ag ?_; first | show AW _ _ _ _ _ _ | show ∃ x', _ < _ ∧ _) | (show AW _ _ (.goto _) _ _ _; refine Bz ?_; try dsimp only [Ar, Aa, Ap, Ab]) | (show AW _ _ (.ret) _ _ _; refine Av ?_; try dsimp only [Ar, Aa, Ap, Ab])
    | (show DL _ _ _ _ _ _ _; refine dl_d Y Y (fun K kt kf => Aq hG Y Y Y Y Y kt kf) (fun h => ?_) (fun h => ?_))
    | (show DL _ _ _ _ _ _ _; refine dl_s Y Y Y ?_) | (show DL _ _ _ _ _ _ _; refine Bk ?_; first | show AW _ _ _ _ _ _ | show ∃ x', _ < _ ∧ _) | (show AW _ _ (.region _ _ true) _ _ _; refine A8 mix (by kernel_rfl) ?_; intro O1) | fail)
      dsimp (config := { zetaDelta := true }) only [Ar, Aa, Ap, Ab]
      refine ⟨rfl, ⟨⟨_, _, _, _, _, _⟩, hT⟩, ?_, .refl _⟩
      exact .cons rfl (.cons rfl (.nil _))
    have hl2 : (rdN ⟨b, 0⟩ 1).2.b.length ≤ 4294967296 := by have : (rdN ⟨b, 0⟩ 1).2.b.length ≤ b.length := l1; omega
    have n2 := a1_call (r := (rdN ⟨b, 0⟩ 1).2) (op := (rdN ⟨b, 0⟩ 1).1) hl2
    repeat' (first
    | ((first | (show AL _ _ _ _ _ _ _ _; refine Ac Y ?_) | (show DL _ _ _ _ _ _ _; refine' Be Y Y (fun K kk => ?_) ?_; try (show Go.Ts.T; rotate_left))); (first
      | (show AOp _ _ ⟨_, .move _, _, _, _, _⟩ _ _ _; refine Ao hG Y Y ?_)
      | (show AOp _ _ ⟨_, .assign _, _, _, _, _⟩ _ _ _; refine A1 hG Y Y ?_)
      | (show AOp _ _ ⟨_, .call ⟨.builtin .len, _, _⟩, _, _, _, _⟩ _ _ _; first | refine Bb hG Y Y Y Y ?_ | refine Bi hG Y Y Y Y Y ?_)
      | (show AOp _ _ ⟨_, .binOp _ _ _ _ _, _, _, _, _⟩ _ _ _; first | refine Au hG Y Y Y Y Y (by omega) ?_ | refine As hG Y Y Y Y Y (by omega) ?_ | ((fail_if_success have := kk); refine Aq hG Y Y Y Y Y (fun h => ?_) (fun h => ?_)))
      | (show AOp _ _ ⟨_, .load _ _, _, _, _, _⟩ _ _ _; first | refine Aj 0 hG Y Y Y Y ?_ | refine Aj 1 hG Y Y Y Y ?_ | refine Aj 2 hG Y Y Y Y ?_ | refine Aj 3 hG Y Y Y Y ?_)
      | (show AOp _ _ ⟨_, .convert _ _ _, _, _, _, _⟩ _ _ _; first | refine A4 hG Y Y Y Y Y (by omega) ?_ | refine Bc hG Y Y Y Y Y ?_)
      | (show AOp _ _ ⟨_, .build _ _, _, _, _, _⟩ _ _ _; refine B0 hG Y Y Y Y Y ?_)
      | (show AOp _ _ ⟨_, .box _ _, _, _, _, _⟩ _ _ _; refine r_box hG Y Y Y (fun i => ?_))
      | (show AOp _ _ ⟨_, .alloc _, _, _, _, _⟩ _ _ _; refine Bg hG Y Y (fun i => ?_))
      | (show AOp _ _ ⟨_, .store _ _ _, _, _, _, _⟩ _ _ _; first | refine Ax 0 hG Y Y Y Y Y Y Y ?_ | refine Ax 1 hG Y Y Y Y Y Y Y ?_ | refine Ax 2 hG Y Y Y Y Y Y Y ?_ | refine Ax 3 hG Y Y Y Y Y Y Y ?_)
      | refine r_q hG Y Y Y ?_); try exact kk)
    | (show AL _ _ _ _ _ _ _ _; first | refine Bd Y Y Y ?_ | (refine Al ?_; first | show AW _ _ _ _ _ _ | show ∃ x', _ < _ ∧ _)) | (show AW _ _ (.seq _ _) _ _ _; refine Af ?_; intro Q1) | (show AW _ _ (.region _ _ false) _ _ _; refine Ad ?_; intro O1) | (show AW _ _ (.cond _ _ _) _ _ _; first | refine Ai Y ?_ | refine Ah Y ?_) | (show AW _ _ (.skip) _ _ _; refine Ag ?_; first | show AW _ _ _ _ _ _ | show ∃ x', _ < _ ∧ _) | (show AW _ _ (.goto _) _ _ _; refine Bz ?_; try dsimp only [Ar, Aa, Ap, Ab]) | (show AW _ _ (.ret) _ _ _; refine Av ?_; try dsimp only [Ar, Aa, Ap, Ab])
    | (show DL _ _ _ _ _ _ _; refine dl_d Y Y (fun K kt kf => Aq hG Y Y Y Y Y kt kf) (fun h => ?_) (fun h => ?_))
    | (show DL _ _ _ _ _ _ _; refine dl_s Y Y Y ?_) | (show DL _ _ _ _ _ _ _; refine Bk ?_; first | show AW _ _ _ _ _ _ | show ∃ x', _ < _ ∧ _) | (show AW _ _ (.region _ _ true) _ _ _; refine A8 mix (by kernel_rfl) ?_; intro O1) | fail)
    refine Ac rfl (r_mut2 rfl rfl rfl rfl rfl (.refl _) n2 (fun u9 cs' ds' hr => ?_))
    obtain ⟨rfl, Pp, d, cc, rfl, wP, wd, wc, hsc⟩ := hr
    by_cases he2 : (Bf (rdN ⟨b, 0⟩ 1).1 (rdN ⟨b, 0⟩ 1).2).2.e ≠ 0
    · have hT : takeK b = (zeroK, (Bf (rdN ⟨b, 0⟩ 1).1 (rdN ⟨b, 0⟩ 1).2).2.e) := by rw [takeK, if_neg he, if_pos he2]
      repeat' (first
    | ((first | (show AL _ _ _ _ _ _ _ _; refine Ac Y ?_) | (show DL _ _ _ _ _ _ _; refine' Be Y Y (fun K kk => ?_) ?_; try (show Go.Ts.T; rotate_left))); (first
      | (show AOp _ _ ⟨_, .move _, _, _, _, _⟩ _ _ _; refine Ao hG Y Y ?_)
      | (show AOp _ _ ⟨_, .assign _, _, _, _, _⟩ _ _ _; refine A1 hG Y Y ?_)
      | (show AOp _ _ ⟨_, .call ⟨.builtin .len, _, _⟩, _, _, _, _⟩ _ _ _; first | refine Bb hG Y Y Y Y ?_ | refine Bi hG Y Y Y Y Y ?_)
      | (show AOp _ _ ⟨_, .binOp _ _ _ _ _, _, _, _, _⟩ _ _ _; first | refine Au hG Y Y Y Y Y (by omega) ?_ | refine As hG Y Y Y Y Y (by omega) ?_ | ((fail_if_success have := kk); refine Aq hG Y Y Y Y Y (fun h => ?_) (fun h => ?_)))
      | (show AOp _ _ ⟨_, .load _ _, _, _, _, _⟩ _ _ _; first | refine Aj 0 hG Y Y Y Y ?_ | refine Aj 1 hG Y Y Y Y ?_ | refine Aj 2 hG Y Y Y Y ?_ | refine Aj 3 hG Y Y Y Y ?_)
      | (show AOp _ _ ⟨_, .convert _ _ _, _, _, _, _⟩ _ _ _; first | refine A4 hG Y Y Y Y Y (by omega) ?_ | refine Bc hG Y Y Y Y Y ?_)
      | (show AOp _ _ ⟨_, .build _ _, _, _, _, _⟩ _ _ _; refine B0 hG Y Y Y Y Y ?_)
      | (show AOp _ _ ⟨_, .box _ _, _, _, _, _⟩ _ _ _; refine r_box hG Y Y Y (fun i => ?_))
      | (show AOp _ _ ⟨_, .alloc _, _, _, _, _⟩ _ _ _; refine Bg hG Y Y (fun i => ?_))
      | (show AOp _ _ ⟨_, .store _ _ _, _, _, _, _⟩ _ _ _; first | refine Ax 0 hG Y Y Y Y Y Y Y ?_ | refine Ax 1 hG Y Y Y Y Y Y Y ?_ | refine Ax 2 hG Y Y Y Y Y Y Y ?_ | refine Ax 3 hG Y Y Y Y Y Y Y ?_)
      | refine r_q hG Y Y Y ?_); try exact kk)
    | (show AL _ _ _ _ _ _ _ _; first | refine Bd Y Y Y ?_ | (refine Al ?_; first | show AW _ _ _ _ _ _ | show ∃ x', _ < _ ∧ _)) | (show AW _ _ (.seq _ _) _ _ _; refine Af ?_; intro Q1) | (show AW _ _ (.region _ _ false) _ _ _; refine Ad ?_; intro O1) | (show AW _ _ (.cond _ _ _) _ _ _; first | refine Ai Y ?_ | refine Ah Y ?_) | (show AW _ _ (.skip) _ _ _; refine Ag ?_; first | show AW _ _ _ _ _ _ | show ∃ x', _ < _ ∧ _) | (show AW _ _ (.goto _) _ _ _; refine Bz ?_; try dsimp only [Ar, Aa, Ap, Ab]) | (show AW _ _ (.ret) _ _ _; refine Av ?_; try dsimp only [Ar, Aa, Ap, Ab])
    | (show DL _ _ _ _ _ _ _; refine dl_d Y Y (fun K kt kf => Aq hG Y Y Y Y Y kt kf) (fun h => ?_) (fun h => ?_))
    | (show DL _ _ _ _ _ _ _; refine dl_s Y Y Y ?_) | (show DL _ _ _ _ _ _ _; refine Bk ?_; first | show AW _ _ _ _ _ _ | show ∃ x', _ < _ ∧ _) | (show AW _ _ (.region _ _ true) _ _ _; refine A8 mix (by kernel_rfl) ?_; intro O1) | fail)
      dsimp (config := { zetaDelta := true }) only [Ar, Aa, Ap, Ab]
      refine ⟨rfl, ⟨⟨_, _, _, _, _, _⟩, hT⟩, ?_, .refl _⟩
      exact .cons rfl (.cons rfl (.nil _))
    by_cases h0 : 0 < (Bf (rdN ⟨b, 0⟩ 1).1 (rdN ⟨b, 0⟩ 1).2).2.b.length
    · have hT : takeK b = (zeroK, 2) := by rw [takeK, if_neg he, if_neg he2, if_pos h0]
      repeat' (first
    | ((first | (show AL _ _ _ _ _ _ _ _; refine Ac Y ?_) | (show DL _ _ _ _ _ _ _; refine' Be Y Y (fun K kk => ?_) ?_; try (show Go.Ts.T; rotate_left))); (first
      | (show AOp _ _ ⟨_, .move _, _, _, _, _⟩ _ _ _; refine Ao hG Y Y ?_)
      | (show AOp _ _ ⟨_, .assign _, _, _, _, _⟩ _ _ _; refine A1 hG Y Y ?_)
      | (show AOp _ _ ⟨_, .call ⟨.builtin .len, _, _⟩, _, _, _, _⟩ _ _ _; first | refine Bb hG Y Y Y Y ?_ | refine Bi hG Y Y Y Y Y ?_)
      | (show AOp _ _ ⟨_, .binOp _ _ _ _ _, _, _, _, _⟩ _ _ _; first | refine Au hG Y Y Y Y Y (by omega) ?_ | refine As hG Y Y Y Y Y (by omega) ?_ | ((fail_if_success have := kk); refine Aq hG Y Y Y Y Y (fun h => ?_) (fun h => ?_)))
      | (show AOp _ _ ⟨_, .load _ _, _, _, _, _⟩ _ _ _; first | refine Aj 0 hG Y Y Y Y ?_ | refine Aj 1 hG Y Y Y Y ?_ | refine Aj 2 hG Y Y Y Y ?_ | refine Aj 3 hG Y Y Y Y ?_)
      | (show AOp _ _ ⟨_, .convert _ _ _, _, _, _, _⟩ _ _ _; first | refine A4 hG Y Y Y Y Y (by omega) ?_ | refine Bc hG Y Y Y Y Y ?_)
      | (show AOp _ _ ⟨_, .build _ _, _, _, _, _⟩ _ _ _; refine B0 hG Y Y Y Y Y ?_)
      | (show AOp _ _ ⟨_, .box _ _, _, _, _, _⟩ _ _ _; refine r_box hG Y Y Y (fun i => ?_))
      | (show AOp _ _ ⟨_, .alloc _, _, _, _, _⟩ _ _ _; refine Bg hG Y Y (fun i => ?_))
      | (show AOp _ _ ⟨_, .store _ _ _, _, _, _, _⟩ _ _ _; first | refine Ax 0 hG Y Y Y Y Y Y Y ?_ | refine Ax 1 hG Y Y Y Y Y Y Y ?_ | refine Ax 2 hG Y Y Y Y Y Y Y ?_ | refine Ax 3 hG Y Y Y Y Y Y Y ?_)
      | refine r_q hG Y Y Y ?_); try exact kk)
    | (show AL _ _ _ _ _ _ _ _; first | refine Bd Y Y Y ?_ | (refine Al ?_; first | show AW _ _ _ _ _ _ | show ∃ x', _ < _ ∧ _)) | (show AW _ _ (.seq _ _) _ _ _; refine Af ?_; intro Q1) | (show AW _ _ (.region _ _ false) _ _ _; refine Ad ?_; intro O1) | (show AW _ _ (.cond _ _ _) _ _ _; first | refine Ai Y ?_ | refine Ah Y ?_) | (show AW _ _ (.skip) _ _ _; refine Ag ?_; first | show AW _ _ _ _ _ _ | show ∃ x', _ < _ ∧ _) | (show AW _ _ (.goto _) _ _ _; refine Bz ?_; try dsimp only [Ar, Aa, Ap, Ab]) | (show AW _ _ (.ret) _ _ _; refine Av ?_; try dsimp only [Ar, Aa, Ap, Ab])
    | (show DL _ _ _ _ _ _ _; refine dl_d Y Y (fun K kt kf => Aq hG Y Y Y Y Y kt kf) (fun h => ?_) (fun h => ?_))
    | (show DL _ _ _ _ _ _ _; refine dl_s Y Y Y ?_) | (show DL _ _ _ _ _ _ _; refine Bk ?_; first | show AW _ _ _ _ _ _ | show ∃ x', _ < _ ∧ _) | (show AW _ _ (.region _ _ true) _ _ _; refine A8 mix (by kernel_rfl) ?_; intro O1) | fail)
      dsimp (config := { zetaDelta := true }) only [Ar, Aa, Ap, Ab]
      refine ⟨rfl, ⟨⟨2, _, _, _, (Bf (rdN ⟨b, 0⟩ 1).1 (rdN ⟨b, 0⟩ 1).2).2.b, _⟩, hT⟩, ?_, .refl _⟩
      exact .cons rfl (.cons rfl (.nil _))
    · have hT : takeK b = ((Bf (rdN ⟨b, 0⟩ 1).1 (rdN ⟨b, 0⟩ 1).2).1, 0) := by rw [takeK, if_neg he, if_neg he2, if_neg h0]
      simp only [Bool.and_eq_true] at hsc
      obtain ⟨⟨s1, s2⟩, s3⟩ := hsc
      have hsc : (notRaw (.agg [.int .i64 (Bf (rdN ⟨b, 0⟩ 1).1 (rdN ⟨b, 0⟩ 1).2).1.op, .int .i64 (Bf (rdN ⟨b, 0⟩ 1).1 (rdN ⟨b, 0⟩ 1).2).1.kind, .int .u64 (Bf (rdN ⟨b, 0⟩ 1).1 (rdN ⟨b, 0⟩ 1).2).1.id, .int .u64 (Bf (rdN ⟨b, 0⟩ 1).1 (rdN ⟨b, 0⟩ 1).2).1.to, .int .i64 (Bf (rdN ⟨b, 0⟩ 1).1 (rdN ⟨b, 0⟩ 1).2).1.off, .int .i64 (Bf (rdN ⟨b, 0⟩ 1).1 (rdN ⟨b, 0⟩ 1).2).1.n, bT (Bf (rdN ⟨b, 0⟩ 1).1 (rdN ⟨b, 0⟩ 1).2).1.df, Pp, .nilsl, .nilsl, .nilsl, d, cc]) && (T.agg [.int .i64 (Bf (rdN ⟨b, 0⟩ 1).1 (rdN ⟨b, 0⟩ 1).2).1.op, .int .i64 (Bf (rdN ⟨b, 0⟩ 1).1 (rdN ⟨b, 0⟩ 1).2).1.kind, .int .u64 (Bf (rdN ⟨b, 0⟩ 1).1 (rdN ⟨b, 0⟩ 1).2).1.id, .int .u64 (Bf (rdN ⟨b, 0⟩ 1).1 (rdN ⟨b, 0⟩ 1).2).1.to, .int .i64 (Bf (rdN ⟨b, 0⟩ 1).1 (rdN ⟨b, 0⟩ 1).2).1.off, .int .i64 (Bf (rdN ⟨b, 0⟩ 1).1 (rdN ⟨b, 0⟩ 1).2).1.n, bT (Bf (rdN ⟨b, 0⟩ 1).1 (rdN ⟨b, 0⟩ 1).2).1.df, Pp, .nilsl, .nilsl, .nilsl, d, cc]).cells.all T.scalar) = true := by
        simp only [notRaw, T.cells, List.all_cons, List.all_nil, s1, s2, s3]; rfl
      repeat' (first
    | ((first | (show AL _ _ _ _ _ _ _ _; refine Ac Y ?_) | (show DL _ _ _ _ _ _ _; refine' Be Y Y (fun K kk => ?_) ?_; try (show Go.Ts.T; rotate_left))); (first
      | (show AOp _ _ ⟨_, .move _, _, _, _, _⟩ _ _ _; refine Ao hG Y Y ?_)
      | (show AOp _ _ ⟨_, .assign _, _, _, _, _⟩ _ _ _; refine A1 hG Y Y ?_)
      | (show AOp _ _ ⟨_, .call ⟨.builtin .len, _, _⟩, _, _, _, _⟩ _ _ _; first | refine Bb hG Y Y Y Y ?_ | refine Bi hG Y Y Y Y Y ?_)
      | (show AOp _ _ ⟨_, .binOp _ _ _ _ _, _, _, _, _⟩ _ _ _; first | refine Au hG Y Y Y Y Y (by omega) ?_ | refine As hG Y Y Y Y Y (by omega) ?_ | ((fail_if_success have := kk); refine Aq hG Y Y Y Y Y (fun h => ?_) (fun h => ?_)))
      | (show AOp _ _ ⟨_, .load _ _, _, _, _, _⟩ _ _ _; first | refine Aj 0 hG Y Y Y Y ?_ | refine Aj 1 hG Y Y Y Y ?_ | refine Aj 2 hG Y Y Y Y ?_ | refine Aj 3 hG Y Y Y Y ?_)
      | (show AOp _ _ ⟨_, .convert _ _ _, _, _, _, _⟩ _ _ _; first | refine A4 hG Y Y Y Y Y (by omega) ?_ | refine Bc hG Y Y Y Y Y ?_)
      | (show AOp _ _ ⟨_, .build _ _, _, _, _, _⟩ _ _ _; refine B0 hG Y Y Y Y Y ?_)
      | (show AOp _ _ ⟨_, .box _ _, _, _, _, _⟩ _ _ _; refine r_box hG Y Y Y (fun i => ?_))
      | (show AOp _ _ ⟨_, .alloc _, _, _, _, _⟩ _ _ _; refine Bg hG Y Y (fun i => ?_))
      | (show AOp _ _ ⟨_, .store _ _ _, _, _, _, _⟩ _ _ _; first | refine Ax 0 hG Y Y Y Y Y Y Y ?_ | refine Ax 1 hG Y Y Y Y Y Y Y ?_ | refine Ax 2 hG Y Y Y Y Y Y Y ?_ | refine Ax 3 hG Y Y Y Y Y Y Y ?_)
      | refine r_q hG Y Y Y ?_); try exact kk)
    | (show AL _ _ _ _ _ _ _ _; first | refine Bd Y Y Y ?_ | (refine Al ?_; first | show AW _ _ _ _ _ _ | show ∃ x', _ < _ ∧ _)) | (show AW _ _ (.seq _ _) _ _ _; refine Af ?_; intro Q1) | (show AW _ _ (.region _ _ false) _ _ _; refine Ad ?_; intro O1) | (show AW _ _ (.cond _ _ _) _ _ _; first | refine Ai Y ?_ | refine Ah Y ?_) | (show AW _ _ (.skip) _ _ _; refine Ag ?_; first | show AW _ _ _ _ _ _ | show ∃ x', _ < _ ∧ _) | (show AW _ _ (.goto _) _ _ _; refine Bz ?_; try dsimp only [Ar, Aa, Ap, Ab]) | (show AW _ _ (.ret) _ _ _; refine Av ?_; try dsimp only [Ar, Aa, Ap, Ab])
    | (show DL _ _ _ _ _ _ _; refine dl_d Y Y (fun K kt kf => Aq hG Y Y Y Y Y kt kf) (fun h => ?_) (fun h => ?_))
    | (show DL _ _ _ _ _ _ _; refine dl_s Y Y Y ?_) | (show DL _ _ _ _ _ _ _; refine Bk ?_; first | show AW _ _ _ _ _ _ | show ∃ x', _ < _ ∧ _) | (show AW _ _ (.region _ _ true) _ _ _; refine A8 mix (by kernel_rfl) ?_; intro O1) | fail)
      refine Ac rfl (Ax 2 hG rfl rfl rfl hsc rfl rfl rfl ?_)
      repeat' (first
    | ((first | (show AL _ _ _ _ _ _ _ _; refine Ac Y ?_) | (show DL _ _ _ _ _ _ _; refine' Be Y Y (fun K kk => ?_) ?_; try (show Go.Ts.T; rotate_left))); (first
      | (show AOp _ _ ⟨_, .move _, _, _, _, _⟩ _ _ _; refine Ao hG Y Y ?_)
      | (show AOp _ _ ⟨_, .assign _, _, _, _, _⟩ _ _ _; refine A1 hG Y Y ?_)
      | (show AOp _ _ ⟨_, .call ⟨.builtin .len, _, _⟩, _, _, _, _⟩ _ _ _; first | refine Bb hG Y Y Y Y ?_ | refine Bi hG Y Y Y Y Y ?_)
      | (show AOp _ _ ⟨_, .binOp _ _ _ _ _, _, _, _, _⟩ _ _ _; first | refine Au hG Y Y Y Y Y (by omega) ?_ | refine As hG Y Y Y Y Y (by omega) ?_ | ((fail_if_success have := kk); refine Aq hG Y Y Y Y Y (fun h => ?_) (fun h => ?_)))
      | (show AOp _ _ ⟨_, .load _ _, _, _, _, _⟩ _ _ _; first | refine Aj 0 hG Y Y Y Y ?_ | refine Aj 1 hG Y Y Y Y ?_ | refine Aj 2 hG Y Y Y Y ?_ | refine Aj 3 hG Y Y Y Y ?_)
      | (show AOp _ _ ⟨_, .convert _ _ _, _, _, _, _⟩ _ _ _; first | refine A4 hG Y Y Y Y Y (by omega) ?_ | refine Bc hG Y Y Y Y Y ?_)
      | (show AOp _ _ ⟨_, .build _ _, _, _, _, _⟩ _ _ _; refine B0 hG Y Y Y Y Y ?_)
      | (show AOp _ _ ⟨_, .box _ _, _, _, _, _⟩ _ _ _; refine r_box hG Y Y Y (fun i => ?_))
      | (show AOp _ _ ⟨_, .alloc _, _, _, _, _⟩ _ _ _; refine Bg hG Y Y (fun i => ?_))
      | (show AOp _ _ ⟨_, .store _ _ _, _, _, _, _⟩ _ _ _; first | refine Ax 0 hG Y Y Y Y Y Y Y ?_ | refine Ax 1 hG Y Y Y Y Y Y Y ?_ | refine Ax 2 hG Y Y Y Y Y Y Y ?_ | refine Ax 3 hG Y Y Y Y Y Y Y ?_)
      | refine r_q hG Y Y Y ?_); try exact kk)
    | (show AL _ _ _ _ _ _ _ _; first | refine Bd Y Y Y ?_ | (refine Al ?_; first | show AW _ _ _ _ _ _ | show ∃ x', _ < _ ∧ _)) | (show AW _ _ (.seq _ _) _ _ _; refine Af ?_; intro Q1) | (show AW _ _ (.region _ _ false) _ _ _; refine Ad ?_; intro O1) | (show AW _ _ (.cond _ _ _) _ _ _; first | refine Ai Y ?_ | refine Ah Y ?_) | (show AW _ _ (.skip) _ _ _; refine Ag ?_; first | show AW _ _ _ _ _ _ | show ∃ x', _ < _ ∧ _) | (show AW _ _ (.goto _) _ _ _; refine Bz ?_; try dsimp only [Ar, Aa, Ap, Ab]) | (show AW _ _ (.ret) _ _ _; refine Av ?_; try dsimp only [Ar, Aa, Ap, Ab])
    | (show DL _ _ _ _ _ _ _; refine dl_d Y Y (fun K kt kf => Aq hG Y Y Y Y Y kt kf) (fun h => ?_) (fun h => ?_))
    | (show DL _ _ _ _ _ _ _; refine dl_s Y Y Y ?_) | (show DL _ _ _ _ _ _ _; refine Bk ?_; first | show AW _ _ _ _ _ _ | show ∃ x', _ < _ ∧ _) | (show AW _ _ (.region _ _ true) _ _ _; refine A8 mix (by kernel_rfl) ?_; intro O1) | fail)
      dsimp (config := { zetaDelta := true }) only [Ar, Aa, Ap, Ab]
      refine A9 (res_cell 2 rfl rfl rfl (A2 rfl A3)) ?_ rfl
      rw [hT]
      exact Wk.tupL (wk2 (Wk.aggL (wkc (.refl _) (wkc (.refl _) (wkc (.refl _) (wkc (.refl _) (wkc (.refl _) (wkc (.refl _) (wkc (.refl _) (wkc wP (wkc (.nil 1) (wkc (.nil 1) (wkc (.nil 1) (wkc wd (wkc wc trivial)))))))))))))) (.refl _))
end Go.Proofs.Ytemgmkoggnjgjaa
namespace Go.Proofs.Ytemgmkoggnjgjaa
open Go.Ts Go.Sets
set_option linter.unusedSimpArgs false
set_option linter.unusedVariables false
structure Pr {α : Type} (f : RS → α × RS) (B : α → List UInt8) : Prop where
  stick : ∀ r, r.e ≠ 0 → (f r).2.e = r.e
  back : ∀ b, (f ⟨b, 0⟩).2.e = 0 → b = B (f ⟨b, 0⟩).1 ++ (f ⟨b, 0⟩).2.b
  fwd : ∀ b, (f ⟨b, 0⟩).2.e = 0 → ∀ t, f ⟨B (f ⟨b, 0⟩).1 ++ t, 0⟩ = ((f ⟨b, 0⟩).1, ⟨t, 0⟩)
  short : ∀ b, (f ⟨b, 0⟩).2.e = 0 → ∀ t k, k < (B (f ⟨b, 0⟩).1).length → (f ⟨(B (f ⟨b, 0⟩).1 ++ t).take k, 0⟩).2.e = 3
def bindR {α β : Type} (f : RS → α × RS) (g : α → RS → β × RS) (r : RS) : (α × β) × RS := (((f r).1, (g (f r).1 (f r).2).1), (g (f r).1 (f r).2).2)
def mapR {α β : Type} (φ : α → β) (f : RS → α × RS) (r : RS) : β × RS := (φ (f r).1, (f r).2)
theorem Pr.map {α β : Type} {f : RS → α × RS} {B : α → List UInt8} {C : β → List UInt8} {φ : α → β} (h : Pr f B) (hc : ∀ a, C (φ a) = B a) : Pr (mapR φ f) C := by
  refine ⟨fun r hr => h.stick r hr, fun b hb => ?_, fun b hb t => ?_, fun b hb t k hk => ?_⟩
  · show b = C (φ _) ++ _
    rw [hc]; exact h.back b hb
  · have e := h.fwd b hb t
    show (φ (f ⟨C (φ _) ++ t, 0⟩).1, (f ⟨C (φ _) ++ t, 0⟩).2) = _
    rw [hc, e]; rfl
  · have e := h.short b hb t k (by have : C (φ _) = _ := hc (f ⟨b, 0⟩).1; rw [← this]; exact hk)
    show (f ⟨(C (φ _) ++ t).take k, 0⟩).2.e = 3
    rw [hc]; exact e
theorem rs_zero {r : RS} (h : r.e = 0) : r = ⟨r.b, 0⟩ := by cases r; simp only at h; subst h; rfl
theorem Pr.bind {α β : Type} {f : RS → α × RS} {g : α → RS → β × RS} {B : α → List UInt8} {C : α → β → List UInt8} (h : Pr f B) (k : ∀ a, Pr (g a) (C a)) : Pr (bindR f g) (fun p => B p.1 ++ C p.1 p.2) := by
  have key : ∀ b, (bindR f g ⟨b, 0⟩).2.e = 0 → (f ⟨b, 0⟩).2.e = 0 := fun b hb => by
    by_cases he : (f ⟨b, 0⟩).2.e = 0
    · exact he
    · have := (k (f ⟨b, 0⟩).1).stick _ he
      rw [show (bindR f g ⟨b, 0⟩).2.e = (g (f ⟨b, 0⟩).1 (f ⟨b, 0⟩).2).2.e from rfl, this] at hb
      exact absurd hb he
  refine ⟨fun r hr => ?_, fun b hb => ?_, fun b hb t => ?_, fun b hb t n hn => ?_⟩
  · have h1 := h.stick r hr
    show (g (f r).1 (f r).2).2.e = r.e
    rw [(k (f r).1).stick _ (by rw [h1]; exact hr), h1]
  · have h1 := key b hb
    have e1 := h.back b h1
    have z := rs_zero h1
    have hb' : (g (f ⟨b, 0⟩).1 (f ⟨b, 0⟩).2).2.e = 0 := hb
    rw [z] at hb'
    have e2 := (k (f ⟨b, 0⟩).1).back _ hb'
    show b = B (f ⟨b, 0⟩).1 ++ C (f ⟨b, 0⟩).1 (g (f ⟨b, 0⟩).1 (f ⟨b, 0⟩).2).1 ++ (g (f ⟨b, 0⟩).1 (f ⟨b, 0⟩).2).2.b
    rw [z]
    rw [List.append_assoc, ← e2]
    exact e1
  · have h1 := key b hb
    have z := rs_zero h1
    have hb' : (g (f ⟨b, 0⟩).1 (f ⟨b, 0⟩).2).2.e = 0 := hb
    rw [z] at hb'
    have w2 := (k (f ⟨b, 0⟩).1).fwd _ hb' t
    have w1 := h.fwd b h1 (C (f ⟨b, 0⟩).1 (g (f ⟨b, 0⟩).1 ⟨(f ⟨b, 0⟩).2.b, 0⟩).1 ++ t)
    show bindR f g ⟨B (f ⟨b, 0⟩).1 ++ C (f ⟨b, 0⟩).1 (g (f ⟨b, 0⟩).1 (f ⟨b, 0⟩).2).1 ++ t, 0⟩ = (((f ⟨b, 0⟩).1, (g (f ⟨b, 0⟩).1 (f ⟨b, 0⟩).2).1), ⟨t, 0⟩)
    rw [z, List.append_assoc]
    unfold bindR
    rw [w1]
    dsimp only
    rw [w2]
  · have h1 := key b hb
    have z := rs_zero h1
    have hb' : (g (f ⟨b, 0⟩).1 (f ⟨b, 0⟩).2).2.e = 0 := hb
    rw [z] at hb'
    have hn' : n < (B (f ⟨b, 0⟩).1 ++ C (f ⟨b, 0⟩).1 (g (f ⟨b, 0⟩).1 ⟨(f ⟨b, 0⟩).2.b, 0⟩).1).length := by rw [← z]; exact hn
    show (bindR f g ⟨(B (f ⟨b, 0⟩).1 ++ C (f ⟨b, 0⟩).1 (g (f ⟨b, 0⟩).1 (f ⟨b, 0⟩).2).1 ++ t).take n, 0⟩).2.e = 3
    rw [z]
    generalize hC : C (f ⟨b, 0⟩).1 (g (f ⟨b, 0⟩).1 ⟨(f ⟨b, 0⟩).2.b, 0⟩).1 = W2 at *
    by_cases hs : n < (B (f ⟨b, 0⟩).1).length
    · have e := h.short b h1 (W2 ++ t) n hs
      rw [List.append_assoc]
      generalize (B (f ⟨b, 0⟩).1 ++ (W2 ++ t)).take n = u at *
      show (g (f ⟨u, 0⟩).1 (f ⟨u, 0⟩).2).2.e = 3
      rw [(k (f ⟨u, 0⟩).1).stick _ (by rw [e]; decide), e]
    · have e3 : (B (f ⟨b, 0⟩).1 ++ W2 ++ t).take n = B (f ⟨b, 0⟩).1 ++ (W2 ++ t).take (n - (B (f ⟨b, 0⟩).1).length) := by
        rw [List.append_assoc, List.take_append, List.take_of_length_le (by omega)]
      rw [e3]
      have w1 := h.fwd b h1 ((W2 ++ t).take (n - (B (f ⟨b, 0⟩).1).length))
      have w2 := (k (f ⟨b, 0⟩).1).short _ hb' t (n - (B (f ⟨b, 0⟩).1).length) (by rw [hC]; rw [List.length_append] at hn'; omega)
      rw [hC] at w2
      unfold bindR
      rw [w1]
      exact w2
theorem Pr.never {α : Type} {f : RS → α × RS} {B : α → List UInt8} (h0 : ∀ b, (f ⟨b, 0⟩).2.e ≠ 0) (hs : ∀ r, r.e ≠ 0 → (f r).2.e = r.e) : Pr f B :=
  ⟨hs, fun b hb => absurd hb (h0 b), fun b hb => absurd hb (h0 b), fun b hb => absurd hb (h0 b)⟩
theorem Pr.unit {α : Type} {a : α} : Pr (fun r => (a, r)) (fun _ => []) := ⟨fun r h => rfl, fun b h => rfl, fun b h t => rfl, fun b h t k hk => absurd hk (by simp)⟩
theorem putI_len (v n : Nat) (h : n ≤ 8) : (putI (v : Int) (n : Int)).length = n := by rw [putI_be _ _ h, be_length]
theorem pr_N (n : Nat) (h8 : n ≤ 8) : Pr (fun r => rdN r n) (fun v => putI (v : Nat) (n : Nat)) := by
  have ok : ∀ b, (rdN ⟨b, 0⟩ n).2.e = 0 → ¬ b.length < n ∧ rdN ⟨b, 0⟩ n = (beV (b.take n), ⟨b.drop n, 0⟩) := fun b hb => by
    by_cases h : b.length < n
    · rw [rdN, if_pos rfl, if_pos h] at hb; cases hb
    · exact ⟨h, by rw [rdN, if_pos rfl, if_neg h]⟩
  refine ⟨fun r hr => by rw [rdN, if_neg hr], fun b hb => ?_, fun b hb t => ?_, fun b hb t k hk => ?_⟩ <;> obtain ⟨h1, h2⟩ := ok b hb <;> (try dsimp only at *) <;> rw [h2] <;> (try dsimp only)
  · have := be_beV (b.take n)
    rw [show (b.take n).length = n by rw [List.length_take]; omega] at this
    rw [putI_be _ _ h8, this, List.take_append_drop]
  · have hv : beV (b.take n) < 2 ^ (8 * n) := beV_lt n _ (by rw [List.length_take]; omega)
    have hl := putI_len (beV (b.take n)) n h8
    rw [rdN, if_pos rfl, if_neg (by simp only [List.length_append]; omega)]
    dsimp only
    rw [List.take_left' hl, List.drop_left' hl, putI_be _ _ h8, beV_be _ _ hv]
  · rw [h2] at hk
    dsimp only at hk
    have hl := putI_len (beV (b.take n)) n h8
    rw [rdN, if_pos rfl, if_pos (by simp only [List.length_take]; omega)]
theorem pr_B : Pr rdB (fun s => putI (s.length : Nat) (2 : Nat) ++ s) := by
  have ok : ∀ b, (rdB ⟨b, 0⟩).2.e = 0 → ∃ s n, takeBE b = (s, n, 0) ∧ rdB ⟨b, 0⟩ = (s, ⟨b.drop n, 0⟩) := fun b hb => by
    by_cases h : (takeBE b).2.2 = 0
    · exact ⟨_, _, by rw [← h], by rw [rdB, if_pos rfl, if_pos h]⟩
    · rw [rdB, if_pos rfl, if_neg h] at hb; cases hb
  refine ⟨fun r hr => by rw [rdB, if_neg hr], fun b hb => ?_, fun b hb t => ?_, fun b hb t k hk => ?_⟩ <;> obtain ⟨s, n, h1, h2⟩ := ok b hb <;> obtain ⟨k1, k2, k3, k4⟩ := takeBE_back h1 <;> (try dsimp only at *) <;> rw [h2] <;> (try dsimp only)
  · exact k1
  · have e := takeBE_put s t k3
    rw [show ((2 : Nat) : Int) = 2 from rfl, rdB, if_pos rfl]
    dsimp only
    rw [e, if_pos rfl]
    dsimp only
    have hl : (putI (s.length : Int) 2 ++ s).length = 2 + s.length := by rw [List.length_append, show (2 : Int) = ((2 : Nat) : Int) from rfl, putI_len _ _ (by omega)]
    rw [List.drop_left' hl]
  · rw [h2] at hk
    dsimp only at hk
    rw [List.length_append, putI_len _ _ (by omega)] at hk
    have e := takeBE_short s t k k3 (by omega)
    rw [show ((2 : Nat) : Int) = 2 from rfl, rdB, if_pos rfl]
    dsimp only
    rw [e, if_neg (by decide)]
theorem pr_C : Pr rdC (fun c => putC [] c) := by
  have ok : ∀ b, (rdC ⟨b, 0⟩).2.e = 0 → ∃ s n, takeC b = (s, n, 0) ∧ rdC ⟨b, 0⟩ = (s, ⟨b.drop n, 0⟩) := fun b hb => by
    by_cases h : (takeC b).2.2 = 0
    · exact ⟨_, _, by rw [← h], by rw [rdC, if_pos rfl, if_pos h]⟩
    · rw [rdC, if_pos rfl, if_neg h] at hb; exact absurd hb h
  refine ⟨fun r hr => by rw [rdC, if_neg hr], fun b hb => ?_, fun b hb t => ?_, fun b hb t k hk => ?_⟩ <;> obtain ⟨s, n, h1, h2⟩ := ok b hb <;> have k1 := takeC_back h1 <;> have k2 := takeC_may h1 <;> (try dsimp only at *) <;> rw [h2] <;> (try dsimp only)
  · rw [k1, List.take_append_drop]
  · rw [rdC, if_pos rfl]
    dsimp only
    rw [takeC_putC' k2, if_pos rfl]
    dsimp only
    rw [List.drop_left]
  · rw [h2] at hk
    dsimp only at hk
    have e := takeC_short (mayC_le k2) k (by rw [← putC_len]; exact hk) t
    rw [rdC, if_pos rfl]
    dsimp only
    rw [e, if_neg (by decide)]
theorem pr_S : Pr rdS (fun x => putLab [] x.df x.ps) := by
  have ok : ∀ b, (rdS ⟨b, 0⟩).2.e = 0 → (Bl b).e = 0 ∧ rdS ⟨b, 0⟩ = (⟨(Bl b).df, (Bl b).ps⟩, ⟨b.drop (Bl b).n, 0⟩) := fun b hb => by
    by_cases h : (Bl b).e = 0
    · exact ⟨h, by rw [rdS, if_pos rfl, if_pos h]⟩
    · rw [rdS, if_pos rfl, if_neg h] at hb; exact absurd hb h
  refine ⟨fun r hr => by rw [rdS, if_neg hr], fun b hb => ?_, fun b hb t => ?_, fun b hb t k hk => ?_⟩ <;> obtain ⟨h1, h2⟩ := ok b hb <;> obtain ⟨k1, k2, k3⟩ := takeLab_ok h1 <;> (try dsimp only at *) <;> rw [h2] <;> (try dsimp only)
  · rw [k3, List.take_append_drop]
  · rw [rdS, if_pos rfl]
    dsimp only
    rw [takeLab_put k1, if_pos rfl]
    dsimp only
    rw [List.drop_left]
  · rw [h2] at hk
    dsimp only at hk
    rw [rdS, if_pos rfl]
    dsimp only
    rw [takeLab_short (by have := (mayLab_len k1).1; omega) t k hk, if_neg (by decide)]
end Go.Proofs.Ytemgmkoggnjgjaa
namespace Go.Proofs.Ytemgmkoggnjgjaa
open Go.Ts Go.Sets
set_option linter.unusedSimpArgs false
set_option linter.unusedVariables false
def moreK (c : CO) : List UInt8 := if c.kind = 1 then putI c.n (2 : Nat) else if c.kind = 2 then putI (c.d.length : Nat) (2 : Nat) ++ c.d else if c.kind = 3 then putC [] c.c else []
def restK (c : CO) : List UInt8 :=
  if c.op = 2 then putLab [] c.df c.ps
  else if c.op = 3 then putI c.kind (1 : Nat) ++ (putI c.id (8 : Nat) ++ (putLab [] c.df c.ps ++ moreK c))
  else if c.op = 4 then putI c.id (8 : Nat) ++ (putI c.off (2 : Nat) ++ putI c.n (2 : Nat))
  else if c.op = 5 then putI c.id (8 : Nat) ++ (putI c.off (2 : Nat) ++ (putI (c.d.length : Nat) (2 : Nat) ++ c.d))
  else if c.op = 6 ∨ c.op = 7 ∨ c.op = 9 ∨ c.op = 11 then putI c.id (8 : Nat)
  else if c.op = 8 then putI c.id (8 : Nat) ++ (putI (c.d.length : Nat) (2 : Nat) ++ c.d)
  else if c.op = 10 then putI c.id (8 : Nat) ++ (putI c.to (8 : Nat) ++ putI c.n (2 : Nat))
  else []
def co (op : Nat) : CO := ⟨op, 0, 0, 0, 0, 0, 0, [], [], []⟩
theorem pr_fresh (op : Nat) (hop : op = 3) : Pr (freshF op) restK := by
  subst hop
  have e : freshF 3 = mapR (fun (p : Nat × (Nat × (S3 × CO))) => { p.2.2.2 with op := 3, kind := p.1, id := p.2.1, df := p.2.2.1.df, ps := p.2.2.1.ps })
      (bindR (fun r => rdN r 1) fun k => bindR (fun r => rdN r 8) fun _ => bindR rdS fun _ => fun r =>
        if k = 1 then mapR (fun n => { co 3 with kind := k, n := n }) (fun r => rdN r 2) r else if k = 2 then mapR (fun d => { co 3 with kind := k, d := d }) rdB r else if k = 3 then mapR (fun c => { co 3 with kind := k, c := c }) rdC r else ({ co 3 with kind := k }, r)) := by
    funext r
    rw [freshF]
    unfold mapR bindR
    dsimp only
    by_cases k1 : (rdN r 1).1 = 1
    · rw [if_pos k1, if_pos k1]; rfl
    rw [if_neg k1, if_neg k1]
    by_cases k2 : (rdN r 1).1 = 2
    · rw [if_pos k2, if_pos k2]; rfl
    rw [if_neg k2, if_neg k2]
    by_cases k3 : (rdN r 1).1 = 3
    · rw [if_pos k3, if_pos k3]; rfl
    · rw [if_neg k3, if_neg k3]; rfl
  rw [e]
  refine Pr.map (Pr.bind (pr_N 1 (by omega)) (C := fun k (p : Nat × (S3 × CO)) => putI p.1 (8 : Nat) ++ (putLab [] p.2.1.df p.2.1.ps ++ moreK { p.2.2 with kind := k })) fun k => Pr.bind (pr_N 8 (by omega)) (C := fun _ (p : S3 × CO) => putLab [] p.1.df p.1.ps ++ moreK { p.2 with kind := k }) fun _ => Pr.bind pr_S (C := fun _ (c : CO) => moreK { c with kind := k }) fun _ => ?_) ?_
  · by_cases k1 : k = 1
    · simp only [if_pos k1]
      exact Pr.map (pr_N 2 (by omega)) fun n => by simp only [moreK, if_pos k1]
    simp only [if_neg k1]
    by_cases k2 : k = 2
    · simp only [if_pos k2]
      exact Pr.map pr_B fun n => by simp only [moreK, if_neg k1, if_pos k2]
    simp only [if_neg k2]
    by_cases k3 : k = 3
    · simp only [if_pos k3]
      exact Pr.map pr_C fun n => by simp only [moreK, if_neg k1, if_neg k2, if_pos k3]
    simp only [if_neg k3]
    refine ⟨fun r h => rfl, fun b h => ?_, fun b h t => ?_, fun b h t k hk => ?_⟩
    · simp only [moreK, if_neg k1, if_neg k2, if_neg k3, List.nil_append]
    · simp only [moreK, if_neg k1, if_neg k2, if_neg k3, List.nil_append]
    · simp [moreK, if_neg k1, if_neg k2, if_neg k3] at hk
  · rintro ⟨k, id, s, c⟩
    simp [restK, moreK]
theorem pr_call (op : Nat) : Pr (Bf op) restK := by
  by_cases k0 : op = 2
  · subst k0
    have e : Bf 2 = mapR (fun (x : S3) => { co 2 with df := x.df, ps := x.ps }) rdS := by funext r; rw [Bf, if_pos rfl]; rfl
    rw [e]
    exact Pr.map pr_S fun x => by simp [restK, co]
  by_cases k1 : op = 3
  · have e : Bf op = freshF op := by funext r; rw [Bf, if_neg k0, if_pos k1]
    rw [e]
    exact pr_fresh op k1
  by_cases k2 : op = 4
  · subst k2
    have e : Bf 4 = mapR (fun (p : Nat × (Nat × Nat)) => { co 4 with id := p.1, off := p.2.1, n := p.2.2 }) (bindR (fun r => rdN r 8) fun _ => bindR (fun r => rdN r 2) fun _ => fun r => rdN r 2) := by funext r; rw [Bf, if_neg k0, if_neg k1, if_pos rfl]; rfl
    rw [e]
    exact Pr.map (Pr.bind (pr_N 8 (by omega)) fun _ => Pr.bind (pr_N 2 (by omega)) fun _ => pr_N 2 (by omega)) fun p => by simp [restK, co]
  by_cases k3 : op = 5
  · subst k3
    have e : Bf 5 = mapR (fun (p : Nat × (Nat × List UInt8)) => { co 5 with id := p.1, off := p.2.1, d := p.2.2 }) (bindR (fun r => rdN r 8) fun _ => bindR (fun r => rdN r 2) fun _ => rdB) := by funext r; rw [Bf, if_neg k0, if_neg k1, if_neg k2, if_pos rfl]; rfl
    rw [e]
    exact Pr.map (Pr.bind (pr_N 8 (by omega)) fun _ => Pr.bind (pr_N 2 (by omega)) fun _ => pr_B) fun p => by simp [restK, co]
  by_cases k4 : op = 6 ∨ op = 7 ∨ op = 9 ∨ op = 11
  · have e : Bf op = mapR (fun (p : Nat) => { co op with id := p }) (fun r => rdN r 8) := by funext r; rw [Bf, if_neg k0, if_neg k1, if_neg k2, if_neg k3, if_pos k4]; rfl
    rw [e]
    exact Pr.map (pr_N 8 (by omega)) fun p => by rcases k4 with rfl | rfl | rfl | rfl <;> simp [restK, co]
  by_cases k5 : op = 8
  · subst k5
    have e : Bf 8 = mapR (fun (p : Nat × List UInt8) => { co 8 with id := p.1, d := p.2 }) (bindR (fun r => rdN r 8) fun _ => rdB) := by funext r; rw [Bf, if_neg k0, if_neg k1, if_neg k2, if_neg k3, if_neg k4, if_pos rfl]; rfl
    rw [e]
    exact Pr.map (Pr.bind (pr_N 8 (by omega)) fun _ => pr_B) fun p => by simp [restK, co]
  by_cases k6 : op = 10
  · subst k6
    have e : Bf 10 = mapR (fun (p : Nat × (Nat × Nat)) => { co 10 with id := p.1, to := p.2.1, n := p.2.2 }) (bindR (fun r => rdN r 8) fun _ => bindR (fun r => rdN r 8) fun _ => fun r => rdN r 2) := by funext r; rw [Bf, if_neg k0, if_neg k1, if_neg k2, if_neg k3, if_neg k4, if_neg k5, if_pos rfl]; rfl
    rw [e]
    exact Pr.map (Pr.bind (pr_N 8 (by omega)) fun _ => Pr.bind (pr_N 8 (by omega)) fun _ => pr_N 2 (by omega)) fun p => by simp [restK, co]
  by_cases k7 : op = 1 ∨ op = 12 ∨ op = 13
  · have e : Bf op = mapR (fun (_ : Unit) => co op) (fun r => ((), r)) := by funext r; rw [Bf, if_neg k0, if_neg k1, if_neg k2, if_neg k3, if_neg k4, if_neg k5, if_neg k6, if_pos k7]; rfl
    rw [e]
    exact Pr.map Pr.unit fun p => by rcases k7 with rfl | rfl | rfl <;> simp [restK, co]
  · have e : Bf op = fun r => (co op, if r.e = 0 then ⟨r.b, 2⟩ else r) := by funext r; rw [Bf, if_neg k0, if_neg k1, if_neg k2, if_neg k3, if_neg k4, if_neg k5, if_neg k6, if_neg k7]; rfl
    rw [e]
    exact Pr.never (fun b => by simp) (fun r h => by simp [h])
theorem callF_op (op : Nat) (r : RS) : (Bf op r).1.op = op := by
  unfold Bf freshF
  repeat' split
  all_goals rfl
def wholeF : RS → (Nat × CO) × RS := bindR (fun r => rdN r 1) Bf
theorem pr_whole : Pr wholeF (fun p => putI (p.1 : Nat) (1 : Nat) ++ restK p.2) := Pr.bind (pr_N 1 (by omega)) pr_call
theorem takeK_whole (b : List UInt8) : takeK b = if (wholeF ⟨b, 0⟩).2.e ≠ 0 then (zeroK, (wholeF ⟨b, 0⟩).2.e) else if 0 < (wholeF ⟨b, 0⟩).2.b.length then (zeroK, 2) else ((wholeF ⟨b, 0⟩).1.2, 0) := by
  unfold takeK
  by_cases h : (rdN ⟨b, 0⟩ 1).2.e ≠ 0
  · have e : (wholeF ⟨b, 0⟩).2.e = (rdN ⟨b, 0⟩ 1).2.e := (pr_call (rdN ⟨b, 0⟩ 1).1).stick _ h
    rw [if_pos h, e, if_pos h]
  · rw [if_neg h]; rfl
def bytesK (c : CO) : List UInt8 := putI (c.op : Nat) (1 : Nat) ++ restK c
theorem wholeF_op (b : List UInt8) : (wholeF ⟨b, 0⟩).1.1 = (wholeF ⟨b, 0⟩).1.2.op := (callF_op _ _).symm
theorem takeK_zero {b : List UInt8} (h : (takeK b).2 ≠ 0) : (takeK b).1 = zeroK := by
  rw [takeK_whole] at h ⊢
  split
  · rfl
  split
  · rfl
  · rename_i h1 h2; rw [if_neg h1, if_neg h2] at h; exact absurd rfl h
theorem takeK_facts {b : List UInt8} (h : (takeK b).2 = 0) : b = bytesK (takeK b).1 ∧ (∀ m : UInt8, takeK (b ++ [m]) = (zeroK, 2)) ∧ ∀ k < b.length, (takeK (b.take k)).2 = 3 := by
  have e := takeK_whole b
  rw [e] at h ⊢
  by_cases h1 : (wholeF ⟨b, 0⟩).2.e ≠ 0
  · rw [if_pos h1] at h; exact absurd h h1
  rw [if_neg h1] at h ⊢
  by_cases h2 : 0 < (wholeF ⟨b, 0⟩).2.b.length
  · rw [if_pos h2] at h; cases h
  rw [if_neg h2]
  have h0 : (wholeF ⟨b, 0⟩).2.e = 0 := by simpa using h1
  have hb0 : (wholeF ⟨b, 0⟩).2.b = [] := List.length_eq_zero_iff.1 (by omega)
  have hb := pr_whole.back b h0
  have hf := pr_whole.fwd b h0
  have hs := pr_whole.short b h0
  have hop := wholeF_op b
  rw [hb0, List.append_nil] at hb
  rw [← hb] at hf hs
  refine ⟨?_, fun m => ?_, fun k hk => ?_⟩
  · dsimp only
    unfold bytesK
    rw [← hop]; exact hb
  · rw [takeK_whole, hf [m], if_neg (by simp), if_pos (by simp)]
  · have := hs [] k hk
    rw [List.append_nil] at this
    rw [takeK_whole, if_pos (by rw [this]; decide)]
    exact this
end Go.Proofs.Ytemgmkoggnjgjaa
namespace Go.Proofs.Ytemgmkoggnjgjaa
open Go.Ts Go.Sets
set_option linter.unusedSimpArgs false
set_option linter.unusedVariables false
attribute [local irreducible] Go.Ts.AW Go.Ts.AOps Go.Ts.AL Go.Ts.AOp Go.Ts.ACalls Go.Ts.DL Go.Ts.DQ Go.Ts.EL
structure CO.Fits (c : CO) : Prop where
  hop : c.op < 256
  hkind : c.kind < 256
  hid : c.id < 18446744073709551616
  hto : c.to < 18446744073709551616
  hoff : c.off < 65536
  hn : c.n < 65536
  hps : c.ps.length ≤ 16
  hd : c.d.length ≤ 65535
  hc : c.c.length ≤ 16
theorem rdN_1 (r : RS) : (rdN r 1).1 < 256 := rdN_lt r 1
theorem rdN_2 (r : RS) : (rdN r 2).1 < 65536 := rdN_lt r 2
theorem rdN_8 (r : RS) : (rdN r 8).1 < 18446744073709551616 := rdN_lt r 8
theorem rdB_l (r : RS) : (rdB r).1.length ≤ 65535 := by
  unfold rdB
  split
  · split
    · rcases takeBE_e r.b with h | h
      · exact h.2.2.2
      · rw [h]; simp
    · simp
  · simp
theorem rdC_l (r : RS) : (rdC r).1.length ≤ 16 := by
  unfold rdC
  split
  · split
    · exact takeC_len _
    · simp
  · simp
theorem rdS_l (r : RS) : (rdS r).1.ps.length ≤ 16 := by
  have := takeLab_small r.b
  unfold rdS
  split
  · split
    · exact this.1
    · simp
  · simp
theorem callF_fits {op : Nat} (h : op < 256) (r : RS) : (Bf op r).1.Fits := by
  unfold Bf freshF
  repeat' split
  all_goals refine ⟨h, ?_, ?_, ?_, ?_, ?_, ?_, ?_, ?_⟩ <;> first | (dsimp only; omega) | exact rdN_1 _ | exact rdN_8 _ | exact rdN_2 _ | exact rdB_l _ | exact rdC_l _ | exact rdS_l _ | simp
theorem zeroK_fits : zeroK.Fits := by refine ⟨?_, ?_, ?_, ?_, ?_, ?_, ?_, ?_, ?_⟩ <;> simp [zeroK]
theorem takeK_fits (b : List UInt8) : (takeK b).1.Fits := by
  unfold takeK
  split
  · exact zeroK_fits
  split
  · exact zeroK_fits
  split
  · exact zeroK_fits
  · exact callF_fits (rdN_1 _) _
theorem a1_putfresh {x : T} {b : List UInt8} {c : CO} (hx : bytesT x = some b) (hl : b.length ≤ 1000) (h : c.Fits) : Ts.Pure Try.prog 24 [x, c.t] (sT (putLab (b ++ putI c.kind (1 : Nat) ++ putI c.id (8 : Nat)) c.df c.ps ++ moreK c)) := by
  refine Pure.weak (us := [sT b, c.t]) ?_ (wk2 (bytesT_wk hx) (.refl _))
  have h1 := h.hkind; have h2 := h.hid; have h3 := h.hn; have h4 := h.hps; have h7 := h.hd; have h8 := h.hc
  intro off
  unfold CO.t
  refine A5 (N := 38) (rs := [.tmp 4]) hG Try.func24 rfl rfl rfl rfl rfl ?_
  have p1 := putI_len c.kind 1 (by omega)
  have p2 := putI_len c.id 8 (by omega)
  have hP1 := (num_Put (x := sT b) (v := (c.kind : Int)) (n := 1) (Ak b) (by omega) (by omega)).pure
  have hP2 := (num_Put (x := .sl 1 .no ((b ++ putI c.kind (1 : Nat)).map bT)) (v := (c.id : Int)) (n := 8) (Ae _ _) (by rw [List.length_append]; omega) (by omega)).pure
  have hP3 := (lcode_Put (x := .sl 1 .no ((b ++ putI c.kind (1 : Nat) ++ putI c.id (8 : Nat)).map bT)) (df := c.df) (l := c.ps) (Ae _ _) (by rw [List.length_append, List.length_append]; omega) (by omega)).pure
  have hlen : (putLab (b ++ putI c.kind (1 : Nat) ++ putI c.id (8 : Nat)) c.df c.ps).length ≤ 2000 := by
    have := flatP_len c.ps
    rw [putLab_eq _ _ _ (by omega)]
    simp only [List.length_append, List.length_cons] at this ⊢
    omega
  generalize hB : putLab (b ++ putI c.kind (1 : Nat) ++ putI c.id (8 : Nat)) c.df c.ps = B at *
  unfold moreK
  by_cases k1 : c.kind = 1
  · rw [if_pos k1]
    have hQ := (num_Put (x := .sl 1 .no (B.map bT)) (v := (c.n : Int)) (n := 2) (Ae _ _) (by omega) (by omega)).pure
    repeat' (first
    | ((first | (show AL _ _ _ _ _ _ _ _; refine Ac Y ?_) | (show DL _ _ _ _ _ _ _; refine' Be Y Y (fun K kk => ?_) ?_; try (show Go.Ts.T; rotate_left))); (first
      | (show AOp _ _ ⟨_, .move _, _, _, _, _⟩ _ _ _; refine Ao hG Y Y ?_)
      | (show AOp _ _ ⟨_, .assign _, _, _, _, _⟩ _ _ _; refine A1 hG Y Y ?_)
      | (show AOp _ _ ⟨_, .binOp _ _ _ _ _, _, _, _, _⟩ _ _ _; first | refine Au hG Y Y Y Y Y (by omega) ?_ | refine As hG Y Y Y Y Y (by omega) ?_ | ((fail_if_success have := kk); refine Aq hG Y Y Y Y Y (fun h => ?_) (fun h => ?_)))
      | (show AOp _ _ ⟨_, .load _ _, _, _, _, _⟩ _ _ _; first | refine Aj 0 hG Y Y Y Y ?_ | refine Aj 1 hG Y Y Y Y ?_)
      | (show AOp _ _ ⟨_, .convert _ _ _, _, _, _, _⟩ _ _ _; first | refine Bs hG Y Y Y Y Y (by omega) ?_ | refine Bc hG Y Y Y Y Y ?_)
      | (show AOp _ _ ⟨_, .box _ _, _, _, _, _⟩ _ _ _; refine r_box hG Y Y Y (fun i => ?_))
      | (show AOp _ _ ⟨_, .call ⟨.value _, _, _⟩, _, _, _, _⟩ _ _ _; first | refine A7 Y Y Y Y Y (by apply hP1 <;> (first | assumption | omega | exact Ae _ _ | exact Ak _ | exact Am _ _ | exact Ay _ | rfl | (simp; omega))) ?_ | refine A7 Y Y Y Y Y (by apply hP2 <;> (first | assumption | omega | exact Ae _ _ | exact Ak _ | exact Am _ _ | exact Ay _ | rfl | (simp; omega))) ?_ | refine A7 Y Y Y Y Y (by apply hP3 <;> (first | assumption | omega | exact Ae _ _ | exact Ak _ | exact Am _ _ | exact Ay _ | rfl | (simp; omega))) ?_ | refine A7 Y Y Y Y Y (by apply hQ <;> (first | assumption | omega | exact Ae _ _ | exact Ak _ | exact Am _ _ | exact Ay _ | rfl | (simp; omega))) ?_ | fail)
      | refine r_q hG Y Y Y ?_); try exact kk)
    | (show AL _ _ _ _ _ _ _ _; first | refine Bd Y Y Y ?_ | (refine Al ?_; first | show AW _ _ _ _ _ _ | show ∃ x', _ < _ ∧ _)) | (show AW _ _ (.seq _ _) _ _ _; refine Af ?_; intro Q1) | (show AW _ _ (.region _ _ false) _ _ _; refine Ad ?_; intro O1) | (show AW _ _ (.cond _ _ _) _ _ _; first | refine Ai Y ?_ | refine Ah Y ?_) | (show AW _ _ (.skip) _ _ _; refine Ag ?_; first | show AW _ _ _ _ _ _ | show ∃ x', _ < _ ∧ _) | (show AW _ _ (.block _ _) _ _ _; refine Aw ?_; intro Q1) | (show AW _ _ (.ret) _ _ _; refine Av ?_; try dsimp only [Ar, Aa, Ap, Ab])
    | (show DL _ _ _ _ _ _ _; refine dl_d Y Y (fun K kt kf => Aq hG Y Y Y Y Y kt kf) (fun h => ?_) (fun h => ?_))
    | (show DL _ _ _ _ _ _ _; refine dl_s Y Y Y ?_) | (show DL _ _ _ _ _ _ _; refine Bk ?_; first | show AW _ _ _ _ _ _ | show ∃ x', _ < _ ∧ _) | (show AW _ _ (.region _ _ true) _ _ _; refine A8 mix (by kernel_rfl) ?_; intro O1) | fail)
    exact A9 (A2 rfl A3) (.refl _) rfl
  rw [if_neg k1]
  by_cases k2 : c.kind = 2
  · rw [if_pos k2]
    have hQ := (num_PutBytes (x := .sl 1 .no (B.map bT)) (y := sT c.d) (Ae _ _) (Ak _) (by omega) (by omega)).pure
    repeat' (first
    | ((first | (show AL _ _ _ _ _ _ _ _; refine Ac Y ?_) | (show DL _ _ _ _ _ _ _; refine' Be Y Y (fun K kk => ?_) ?_; try (show Go.Ts.T; rotate_left))); (first
      | (show AOp _ _ ⟨_, .move _, _, _, _, _⟩ _ _ _; refine Ao hG Y Y ?_)
      | (show AOp _ _ ⟨_, .assign _, _, _, _, _⟩ _ _ _; refine A1 hG Y Y ?_)
      | (show AOp _ _ ⟨_, .binOp _ _ _ _ _, _, _, _, _⟩ _ _ _; first | refine Au hG Y Y Y Y Y (by omega) ?_ | refine As hG Y Y Y Y Y (by omega) ?_ | ((fail_if_success have := kk); refine Aq hG Y Y Y Y Y (fun h => ?_) (fun h => ?_)))
      | (show AOp _ _ ⟨_, .load _ _, _, _, _, _⟩ _ _ _; first | refine Aj 0 hG Y Y Y Y ?_ | refine Aj 1 hG Y Y Y Y ?_)
      | (show AOp _ _ ⟨_, .convert _ _ _, _, _, _, _⟩ _ _ _; first | refine Bs hG Y Y Y Y Y (by omega) ?_ | refine Bc hG Y Y Y Y Y ?_)
      | (show AOp _ _ ⟨_, .box _ _, _, _, _, _⟩ _ _ _; refine r_box hG Y Y Y (fun i => ?_))
      | (show AOp _ _ ⟨_, .call ⟨.value _, _, _⟩, _, _, _, _⟩ _ _ _; first | refine A7 Y Y Y Y Y (by apply hP1 <;> (first | assumption | omega | exact Ae _ _ | exact Ak _ | exact Am _ _ | exact Ay _ | rfl | (simp; omega))) ?_ | refine A7 Y Y Y Y Y (by apply hP2 <;> (first | assumption | omega | exact Ae _ _ | exact Ak _ | exact Am _ _ | exact Ay _ | rfl | (simp; omega))) ?_ | refine A7 Y Y Y Y Y (by apply hP3 <;> (first | assumption | omega | exact Ae _ _ | exact Ak _ | exact Am _ _ | exact Ay _ | rfl | (simp; omega))) ?_ | refine A7 Y Y Y Y Y (by apply hQ <;> (first | assumption | omega | exact Ae _ _ | exact Ak _ | exact Am _ _ | exact Ay _ | rfl | (simp; omega))) ?_ | fail)
      | refine r_q hG Y Y Y ?_); try exact kk)
    | (show AL _ _ _ _ _ _ _ _; first | refine Bd Y Y Y ?_ | (refine Al ?_; first | show AW _ _ _ _ _ _ | show ∃ x', _ < _ ∧ _)) | (show AW _ _ (.seq _ _) _ _ _; refine Af ?_; intro Q1) | (show AW _ _ (.region _ _ false) _ _ _; refine Ad ?_; intro O1) | (show AW _ _ (.cond _ _ _) _ _ _; first | refine Ai Y ?_ | refine Ah Y ?_) | (show AW _ _ (.skip) _ _ _; refine Ag ?_; first | show AW _ _ _ _ _ _ | show ∃ x', _ < _ ∧ _) | (show AW _ _ (.block _ _) _ _ _; refine Aw ?_; intro Q1) | (show AW _ _ (.ret) _ _ _; refine Av ?_; try dsimp only [Ar, Aa, Ap, Ab])
    | (show DL _ _ _ _ _ _ _; refine dl_d Y Y (fun K kt kf => Aq hG Y Y Y Y Y kt kf) (fun h => ?_) (fun h => ?_))
    | (show DL _ _ _ _ _ _ _; refine dl_s Y Y Y ?_) | (show DL _ _ _ _ _ _ _; refine Bk ?_; first | show AW _ _ _ _ _ _ | show ∃ x', _ < _ ∧ _) | (show AW _ _ (.region _ _ true) _ _ _; refine A8 mix (by kernel_rfl) ?_; intro O1) | fail)
    exact A9 (A2 rfl A3) (.eq (congrArg sT (by simp [putBs]))) rfl
  rw [if_neg k2]
  by_cases k3 : c.kind = 3
  · rw [if_pos k3]
    have hQ := (cats_Put (x := .sl 1 .no (B.map bT)) (y := cT c.c) (Ae _ _) (Ay _) (by omega) (by omega)).pure
    repeat' (first
    | ((first | (show AL _ _ _ _ _ _ _ _; refine Ac Y ?_) | (show DL _ _ _ _ _ _ _; refine' Be Y Y (fun K kk => ?_) ?_; try (show Go.Ts.T; rotate_left))); (first
      | (show AOp _ _ ⟨_, .move _, _, _, _, _⟩ _ _ _; refine Ao hG Y Y ?_)
      | (show AOp _ _ ⟨_, .assign _, _, _, _, _⟩ _ _ _; refine A1 hG Y Y ?_)
      | (show AOp _ _ ⟨_, .binOp _ _ _ _ _, _, _, _, _⟩ _ _ _; first | refine Au hG Y Y Y Y Y (by omega) ?_ | refine As hG Y Y Y Y Y (by omega) ?_ | ((fail_if_success have := kk); refine Aq hG Y Y Y Y Y (fun h => ?_) (fun h => ?_)))
      | (show AOp _ _ ⟨_, .load _ _, _, _, _, _⟩ _ _ _; first | refine Aj 0 hG Y Y Y Y ?_ | refine Aj 1 hG Y Y Y Y ?_)
      | (show AOp _ _ ⟨_, .convert _ _ _, _, _, _, _⟩ _ _ _; first | refine Bs hG Y Y Y Y Y (by omega) ?_ | refine Bc hG Y Y Y Y Y ?_)
      | (show AOp _ _ ⟨_, .box _ _, _, _, _, _⟩ _ _ _; refine r_box hG Y Y Y (fun i => ?_))
      | (show AOp _ _ ⟨_, .call ⟨.value _, _, _⟩, _, _, _, _⟩ _ _ _; first | refine A7 Y Y Y Y Y (by apply hP1 <;> (first | assumption | omega | exact Ae _ _ | exact Ak _ | exact Am _ _ | exact Ay _ | rfl | (simp; omega))) ?_ | refine A7 Y Y Y Y Y (by apply hP2 <;> (first | assumption | omega | exact Ae _ _ | exact Ak _ | exact Am _ _ | exact Ay _ | rfl | (simp; omega))) ?_ | refine A7 Y Y Y Y Y (by apply hP3 <;> (first | assumption | omega | exact Ae _ _ | exact Ak _ | exact Am _ _ | exact Ay _ | rfl | (simp; omega))) ?_ | refine A7 Y Y Y Y Y (by apply hQ <;> (first | assumption | omega | exact Ae _ _ | exact Ak _ | exact Am _ _ | exact Ay _ | rfl | (simp; omega))) ?_ | fail)
      | refine r_q hG Y Y Y ?_); try exact kk)
    | (show AL _ _ _ _ _ _ _ _; first | refine Bd Y Y Y ?_ | (refine Al ?_; first | show AW _ _ _ _ _ _ | show ∃ x', _ < _ ∧ _)) | (show AW _ _ (.seq _ _) _ _ _; refine Af ?_; intro Q1) | (show AW _ _ (.region _ _ false) _ _ _; refine Ad ?_; intro O1) | (show AW _ _ (.cond _ _ _) _ _ _; first | refine Ai Y ?_ | refine Ah Y ?_) | (show AW _ _ (.skip) _ _ _; refine Ag ?_; first | show AW _ _ _ _ _ _ | show ∃ x', _ < _ ∧ _) | (show AW _ _ (.block _ _) _ _ _; refine Aw ?_; intro Q1) | (show AW _ _ (.ret) _ _ _; refine Av ?_; try dsimp only [Ar, Aa, Ap, Ab])
    | (show DL _ _ _ _ _ _ _; refine dl_d Y Y (fun K kt kf => Aq hG Y Y Y Y Y kt kf) (fun h => ?_) (fun h => ?_))
    | (show DL _ _ _ _ _ _ _; refine dl_s Y Y Y ?_) | (show DL _ _ _ _ _ _ _; refine Bk ?_; first | show AW _ _ _ _ _ _ | show ∃ x', _ < _ ∧ _) | (show AW _ _ (.region _ _ true) _ _ _; refine A8 mix (by kernel_rfl) ?_; intro O1) | fail)
    exact A9 (A2 rfl A3) (.eq (congrArg sT (by rw [putC_eq]))) rfl
  · rw [if_neg k3]
    repeat' (first
    | ((first | (show AL _ _ _ _ _ _ _ _; refine Ac Y ?_) | (show DL _ _ _ _ _ _ _; refine' Be Y Y (fun K kk => ?_) ?_; try (show Go.Ts.T; rotate_left))); (first
      | (show AOp _ _ ⟨_, .move _, _, _, _, _⟩ _ _ _; refine Ao hG Y Y ?_)
      | (show AOp _ _ ⟨_, .assign _, _, _, _, _⟩ _ _ _; refine A1 hG Y Y ?_)
      | (show AOp _ _ ⟨_, .binOp _ _ _ _ _, _, _, _, _⟩ _ _ _; first | refine Au hG Y Y Y Y Y (by omega) ?_ | refine As hG Y Y Y Y Y (by omega) ?_ | ((fail_if_success have := kk); refine Aq hG Y Y Y Y Y (fun h => ?_) (fun h => ?_)))
      | (show AOp _ _ ⟨_, .load _ _, _, _, _, _⟩ _ _ _; first | refine Aj 0 hG Y Y Y Y ?_ | refine Aj 1 hG Y Y Y Y ?_)
      | (show AOp _ _ ⟨_, .convert _ _ _, _, _, _, _⟩ _ _ _; first | refine Bs hG Y Y Y Y Y (by omega) ?_ | refine Bc hG Y Y Y Y Y ?_)
      | (show AOp _ _ ⟨_, .box _ _, _, _, _, _⟩ _ _ _; refine r_box hG Y Y Y (fun i => ?_))
      | (show AOp _ _ ⟨_, .call ⟨.value _, _, _⟩, _, _, _, _⟩ _ _ _; first | refine A7 Y Y Y Y Y (by apply hP1 <;> (first | assumption | omega | exact Ae _ _ | exact Ak _ | exact Am _ _ | exact Ay _ | rfl | (simp; omega))) ?_ | refine A7 Y Y Y Y Y (by apply hP2 <;> (first | assumption | omega | exact Ae _ _ | exact Ak _ | exact Am _ _ | exact Ay _ | rfl | (simp; omega))) ?_ | refine A7 Y Y Y Y Y (by apply hP3 <;> (first | assumption | omega | exact Ae _ _ | exact Ak _ | exact Am _ _ | exact Ay _ | rfl | (simp; omega))) ?_ | fail)
      | refine r_q hG Y Y Y ?_); try exact kk)
    | (show AL _ _ _ _ _ _ _ _; first | refine Bd Y Y Y ?_ | (refine Al ?_; first | show AW _ _ _ _ _ _ | show ∃ x', _ < _ ∧ _)) | (show AW _ _ (.seq _ _) _ _ _; refine Af ?_; intro Q1) | (show AW _ _ (.region _ _ false) _ _ _; refine Ad ?_; intro O1) | (show AW _ _ (.cond _ _ _) _ _ _; first | refine Ai Y ?_ | refine Ah Y ?_) | (show AW _ _ (.skip) _ _ _; refine Ag ?_; first | show AW _ _ _ _ _ _ | show ∃ x', _ < _ ∧ _) | (show AW _ _ (.block _ _) _ _ _; refine Aw ?_; intro Q1) | (show AW _ _ (.ret) _ _ _; refine Av ?_; try dsimp only [Ar, Aa, Ap, Ab])
    | (show DL _ _ _ _ _ _ _; refine dl_d Y Y (fun K kt kf => Aq hG Y Y Y Y Y kt kf) (fun h => ?_) (fun h => ?_))
    | (show DL _ _ _ _ _ _ _; refine dl_s Y Y Y ?_) | (show DL _ _ _ _ _ _ _; refine Bk ?_; first | show AW _ _ _ _ _ _ | show ∃ x', _ < _ ∧ _) | (show AW _ _ (.region _ _ true) _ _ _; refine A8 mix (by kernel_rfl) ?_; intro O1) | fail)
    exact A9 (A2 rfl A3) (.eq (congrArg sT (by simp))) rfl
set_option maxHeartbeats 1000000 in
theorem abi1_Put {c : CO} (h : c.Fits) : Ts.Pure Try.prog 10 [c.t] (sT (bytesK c)) := by
  have h0 := h.hop; have h1 := h.hkind; have h2 := h.hid; have ht := h.hto; have h3 := h.hn; have hof := h.hoff; have h4 := h.hps; have h7 := h.hd; have h8 := h.hc
  have hop : T.int .u8 (c.op : Int) = bT (UInt8.ofNat c.op) := by unfold bT; congr 1; simp; omega
  have hb : bytesT (.sl 1 .full [.int .u8 (c.op : Int)]) = some [UInt8.ofNat c.op] := by rw [hop]; exact Ae .full [UInt8.ofNat c.op]
  have hone : putI (c.op : Nat) (1 : Nat) = [UInt8.ofNat c.op] := by rw [putI_be _ _ (by omega)]; simp [be]
  have hF := a1_putfresh hb (by simp) h
  have p2 := putI_len c.id 8 (by omega)
  have p3 := putI_len c.off 2 (by omega)
  have p4 := putI_len c.to 8 (by omega)
  have hP1 := (num_Put (x := .sl 1 .full [.int .u8 (c.op : Int)]) (v := (c.id : Int)) (n := 8) hb (by simp) (by omega)).pure
  have hP2 := (num_Put (x := .sl 1 .no (([UInt8.ofNat c.op] ++ putI c.id (8 : Nat)).map bT)) (v := (c.off : Int)) (n := 2) (Ae _ _) (by rw [List.length_append, p2]; simp) (by omega)).pure
  have hP3 := (num_Put (x := .sl 1 .no (([UInt8.ofNat c.op] ++ putI c.id (8 : Nat) ++ putI c.off (2 : Nat)).map bT)) (v := (c.n : Int)) (n := 2) (Ae _ _) (by rw [List.length_append, List.length_append, p2, p3]; simp) (by omega)).pure
  have hP4 := (num_PutBytes (x := .sl 1 .no (([UInt8.ofNat c.op] ++ putI c.id (8 : Nat) ++ putI c.off (2 : Nat)).map bT)) (y := sT c.d) (Ae _ _) (Ak _) (by rw [List.length_append, List.length_append, p2, p3]; simp) (by omega)).pure
  have hP5 := (num_PutBytes (x := .sl 1 .no (([UInt8.ofNat c.op] ++ putI c.id (8 : Nat)).map bT)) (y := sT c.d) (Ae _ _) (Ak _) (by rw [List.length_append, p2]; simp) (by omega)).pure
  have hP6 := (num_Put (x := .sl 1 .no (([UInt8.ofNat c.op] ++ putI c.id (8 : Nat)).map bT)) (v := (c.to : Int)) (n := 8) (Ae _ _) (by rw [List.length_append, p2]; simp) (by omega)).pure
  have hP7 := (num_Put (x := .sl 1 .no (([UInt8.ofNat c.op] ++ putI c.id (8 : Nat) ++ putI c.to (8 : Nat)).map bT)) (v := (c.n : Int)) (n := 2) (Ae _ _) (by rw [List.length_append, List.length_append, p2, p4]; simp) (by omega)).pure
  have hP8 := (lcode_Put (x := .sl 1 .full [.int .u8 (c.op : Int)]) (df := c.df) (l := c.ps) hb (by simp) (by omega)).pure
  intro off
  unfold bytesK restK
  rw [hone]
  unfold CO.t at hF ⊢
  by_cases k0 : c.op = 2
  · rw [if_pos k0]
    refine A5 (N := 80) (rs := [.tmp 2]) hG Try.func10 rfl rfl rfl rfl rfl ?_
    repeat' (first
    | ((first | (show AL _ _ _ _ _ _ _ _; refine Ac Y ?_) | (show DL _ _ _ _ _ _ _; refine' Be Y Y (fun K kk => ?_) ?_; try (show Go.Ts.T; rotate_left))); (first
      | (show AOp _ _ ⟨_, .move _, _, _, _, _⟩ _ _ _; refine Ao hG Y Y ?_)
      | (show AOp _ _ ⟨_, .assign _, _, _, _, _⟩ _ _ _; refine A1 hG Y Y ?_)
      | (show AOp _ _ ⟨_, .binOp _ _ _ _ _, _, _, _, _⟩ _ _ _; first | refine Au hG Y Y Y Y Y (by omega) ?_ | refine As hG Y Y Y Y Y (by omega) ?_ | ((fail_if_success have := kk); refine Aq hG Y Y Y Y Y (fun h => ?_) (fun h => ?_)))
      | (show AOp _ _ ⟨_, .load _ _, _, _, _, _⟩ _ _ _; first | refine Aj 0 hG Y Y Y Y ?_ | refine Aj 1 hG Y Y Y Y ?_)
      | (show AOp _ _ ⟨_, .convert _ _ _, _, _, _, _⟩ _ _ _; first | refine Bs hG Y Y Y Y Y (by omega) ?_ | refine r_cv_u8 hG Y Y Y Y Y (by omega) ?_ | refine Bc hG Y Y Y Y Y ?_)
      | (show AOp _ _ ⟨_, .buildSlice _ _ _, _, _, _, _⟩ _ _ _; first | refine r_mk (sz := 1) hG Y Y Y Y Y Y Y ?_)
      | (show AOp _ _ ⟨_, .box _ _, _, _, _, _⟩ _ _ _; refine r_box hG Y Y Y (fun i => ?_))
      | (show AOp _ _ ⟨_, .call ⟨.value _, _, _⟩, _, _, _, _⟩ _ _ _; first | refine A7 Y Y Y Y Y (by apply hP8 <;> (first | assumption | omega | exact Ae _ _ | exact Ak _ | exact Am _ _ | exact Ay _ | rfl | (simp; omega))) ?_ | fail)
      | refine r_q hG Y Y Y ?_); try exact kk)
    | (show AL _ _ _ _ _ _ _ _; first | refine Bd Y Y Y ?_ | (refine Al ?_; first | show AW _ _ _ _ _ _ | show ∃ x', _ < _ ∧ _)) | (show AW _ _ (.seq _ _) _ _ _; refine Af ?_; intro Q1) | (show AW _ _ (.region _ _ false) _ _ _; refine Ad ?_; intro O1) | (show AW _ _ (.cond _ _ _) _ _ _; first | refine Ai Y ?_ | refine Ah Y ?_) | (show AW _ _ (.skip) _ _ _; refine Ag ?_; first | show AW _ _ _ _ _ _ | show ∃ x', _ < _ ∧ _) | (show AW _ _ (.block _ _) _ _ _; refine Aw ?_; intro Q1) | (show AW _ _ (.ret) _ _ _; refine Av ?_; try dsimp only [Ar, Aa, Ap, Ab])
    | (show DL _ _ _ _ _ _ _; refine dl_d Y Y (fun K kt kf => Aq hG Y Y Y Y Y kt kf) (fun h => ?_) (fun h => ?_))
    | (show DL _ _ _ _ _ _ _; refine dl_s Y Y Y ?_) | (show DL _ _ _ _ _ _ _; refine Bk ?_; first | show AW _ _ _ _ _ _ | show ∃ x', _ < _ ∧ _) | (show AW _ _ (.region _ _ true) _ _ _; refine A8 mix (by kernel_rfl) ?_; intro O1) | fail)
    exact A9 (A2 rfl A3) (.eq (congrArg sT (by unfold putLab; simp))) rfl
  rw [if_neg k0]
  by_cases k1 : c.op = 3
  · rw [if_pos k1]
    refine A5 (N := 80) (rs := [.tmp 2]) hG Try.func10 rfl rfl rfl rfl rfl ?_
    repeat' (first
    | ((first | (show AL _ _ _ _ _ _ _ _; refine Ac Y ?_) | (show DL _ _ _ _ _ _ _; refine' Be Y Y (fun K kk => ?_) ?_; try (show Go.Ts.T; rotate_left))); (first
      | (show AOp _ _ ⟨_, .move _, _, _, _, _⟩ _ _ _; refine Ao hG Y Y ?_)
      | (show AOp _ _ ⟨_, .assign _, _, _, _, _⟩ _ _ _; refine A1 hG Y Y ?_)
      | (show AOp _ _ ⟨_, .binOp _ _ _ _ _, _, _, _, _⟩ _ _ _; first | refine Au hG Y Y Y Y Y (by omega) ?_ | refine As hG Y Y Y Y Y (by omega) ?_ | ((fail_if_success have := kk); refine Aq hG Y Y Y Y Y (fun h => ?_) (fun h => ?_)))
      | (show AOp _ _ ⟨_, .load _ _, _, _, _, _⟩ _ _ _; first | refine Aj 0 hG Y Y Y Y ?_ | refine Aj 1 hG Y Y Y Y ?_)
      | (show AOp _ _ ⟨_, .convert _ _ _, _, _, _, _⟩ _ _ _; first | refine Bs hG Y Y Y Y Y (by omega) ?_ | refine r_cv_u8 hG Y Y Y Y Y (by omega) ?_ | refine Bc hG Y Y Y Y Y ?_)
      | (show AOp _ _ ⟨_, .buildSlice _ _ _, _, _, _, _⟩ _ _ _; first | refine r_mk (sz := 1) hG Y Y Y Y Y Y Y ?_)
      | (show AOp _ _ ⟨_, .box _ _, _, _, _, _⟩ _ _ _; refine r_box hG Y Y Y (fun i => ?_))
      | (show AOp _ _ ⟨_, .call ⟨.value _, _, _⟩, _, _, _, _⟩ _ _ _; first | refine A7 Y Y Y Y Y (by apply hF <;> (first | assumption | omega | exact Ae _ _ | exact Ak _ | exact Am _ _ | exact Ay _ | rfl | (simp; omega))) ?_ | fail)
      | refine r_q hG Y Y Y ?_); try exact kk)
    | (show AL _ _ _ _ _ _ _ _; first | refine Bd Y Y Y ?_ | (refine Al ?_; first | show AW _ _ _ _ _ _ | show ∃ x', _ < _ ∧ _)) | (show AW _ _ (.seq _ _) _ _ _; refine Af ?_; intro Q1) | (show AW _ _ (.region _ _ false) _ _ _; refine Ad ?_; intro O1) | (show AW _ _ (.cond _ _ _) _ _ _; first | refine Ai Y ?_ | refine Ah Y ?_) | (show AW _ _ (.skip) _ _ _; refine Ag ?_; first | show AW _ _ _ _ _ _ | show ∃ x', _ < _ ∧ _) | (show AW _ _ (.block _ _) _ _ _; refine Aw ?_; intro Q1) | (show AW _ _ (.ret) _ _ _; refine Av ?_; try dsimp only [Ar, Aa, Ap, Ab])
    | (show DL _ _ _ _ _ _ _; refine dl_d Y Y (fun K kt kf => Aq hG Y Y Y Y Y kt kf) (fun h => ?_) (fun h => ?_))
    | (show DL _ _ _ _ _ _ _; refine dl_s Y Y Y ?_) | (show DL _ _ _ _ _ _ _; refine Bk ?_; first | show AW _ _ _ _ _ _ | show ∃ x', _ < _ ∧ _) | (show AW _ _ (.region _ _ true) _ _ _; refine A8 mix (by kernel_rfl) ?_; intro O1) | fail)
    exact A9 (A2 rfl A3) (.eq (congrArg sT (by unfold putLab; simp))) rfl
  rw [if_neg k1]
  by_cases k2 : c.op = 4
  · rw [if_pos k2]
    refine A5 (N := 80) (rs := [.tmp 2]) hG Try.func10 rfl rfl rfl rfl rfl ?_
    repeat' (first
    | ((first | (show AL _ _ _ _ _ _ _ _; refine Ac Y ?_) | (show DL _ _ _ _ _ _ _; refine' Be Y Y (fun K kk => ?_) ?_; try (show Go.Ts.T; rotate_left))); (first
      | (show AOp _ _ ⟨_, .move _, _, _, _, _⟩ _ _ _; refine Ao hG Y Y ?_)
      | (show AOp _ _ ⟨_, .assign _, _, _, _, _⟩ _ _ _; refine A1 hG Y Y ?_)
      | (show AOp _ _ ⟨_, .binOp _ _ _ _ _, _, _, _, _⟩ _ _ _; first | refine Au hG Y Y Y Y Y (by omega) ?_ | refine As hG Y Y Y Y Y (by omega) ?_ | ((fail_if_success have := kk); refine Aq hG Y Y Y Y Y (fun h => ?_) (fun h => ?_)))
      | (show AOp _ _ ⟨_, .load _ _, _, _, _, _⟩ _ _ _; first | refine Aj 0 hG Y Y Y Y ?_ | refine Aj 1 hG Y Y Y Y ?_)
      | (show AOp _ _ ⟨_, .convert _ _ _, _, _, _, _⟩ _ _ _; first | refine Bs hG Y Y Y Y Y (by omega) ?_ | refine r_cv_u8 hG Y Y Y Y Y (by omega) ?_ | refine Bc hG Y Y Y Y Y ?_)
      | (show AOp _ _ ⟨_, .buildSlice _ _ _, _, _, _, _⟩ _ _ _; first | refine r_mk (sz := 1) hG Y Y Y Y Y Y Y ?_)
      | (show AOp _ _ ⟨_, .box _ _, _, _, _, _⟩ _ _ _; refine r_box hG Y Y Y (fun i => ?_))
      | (show AOp _ _ ⟨_, .call ⟨.value _, _, _⟩, _, _, _, _⟩ _ _ _; first | refine A7 Y Y Y Y Y (by apply hP1 <;> (first | assumption | omega | exact Ae _ _ | exact Ak _ | exact Am _ _ | exact Ay _ | rfl | (simp; omega))) ?_ | refine A7 Y Y Y Y Y (by apply hP2 <;> (first | assumption | omega | exact Ae _ _ | exact Ak _ | exact Am _ _ | exact Ay _ | rfl | (simp; omega))) ?_ | refine A7 Y Y Y Y Y (by apply hP3 <;> (first | assumption | omega | exact Ae _ _ | exact Ak _ | exact Am _ _ | exact Ay _ | rfl | (simp; omega))) ?_ | fail)
      | refine r_q hG Y Y Y ?_); try exact kk)
    | (show AL _ _ _ _ _ _ _ _; first | refine Bd Y Y Y ?_ | (refine Al ?_; first | show AW _ _ _ _ _ _ | show ∃ x', _ < _ ∧ _)) | (show AW _ _ (.seq _ _) _ _ _; refine Af ?_; intro Q1) | (show AW _ _ (.region _ _ false) _ _ _; refine Ad ?_; intro O1) | (show AW _ _ (.cond _ _ _) _ _ _; first | refine Ai Y ?_ | refine Ah Y ?_) | (show AW _ _ (.skip) _ _ _; refine Ag ?_; first | show AW _ _ _ _ _ _ | show ∃ x', _ < _ ∧ _) | (show AW _ _ (.block _ _) _ _ _; refine Aw ?_; intro Q1) | (show AW _ _ (.ret) _ _ _; refine Av ?_; try dsimp only [Ar, Aa, Ap, Ab])
    | (show DL _ _ _ _ _ _ _; refine dl_d Y Y (fun K kt kf => Aq hG Y Y Y Y Y kt kf) (fun h => ?_) (fun h => ?_))
    | (show DL _ _ _ _ _ _ _; refine dl_s Y Y Y ?_) | (show DL _ _ _ _ _ _ _; refine Bk ?_; first | show AW _ _ _ _ _ _ | show ∃ x', _ < _ ∧ _) | (show AW _ _ (.region _ _ true) _ _ _; refine A8 mix (by kernel_rfl) ?_; intro O1) | fail)
    exact A9 (A2 rfl A3) (.eq (congrArg sT (by simp))) rfl
  rw [if_neg k2]
  by_cases k3 : c.op = 5
  · rw [if_pos k3]
    refine A5 (N := 80) (rs := [.tmp 2]) hG Try.func10 rfl rfl rfl rfl rfl ?_
    repeat' (first
    | ((first | (show AL _ _ _ _ _ _ _ _; refine Ac Y ?_) | (show DL _ _ _ _ _ _ _; refine' Be Y Y (fun K kk => ?_) ?_; try (show Go.Ts.T; rotate_left))); (first
      | (show AOp _ _ ⟨_, .move _, _, _, _, _⟩ _ _ _; refine Ao hG Y Y ?_)
      | (show AOp _ _ ⟨_, .assign _, _, _, _, _⟩ _ _ _; refine A1 hG Y Y ?_)
      | (show AOp _ _ ⟨_, .binOp _ _ _ _ _, _, _, _, _⟩ _ _ _; first | refine Au hG Y Y Y Y Y (by omega) ?_ | refine As hG Y Y Y Y Y (by omega) ?_ | ((fail_if_success have := kk); refine Aq hG Y Y Y Y Y (fun h => ?_) (fun h => ?_)))
      | (show AOp _ _ ⟨_, .load _ _, _, _, _, _⟩ _ _ _; first | refine Aj 0 hG Y Y Y Y ?_ | refine Aj 1 hG Y Y Y Y ?_)
      | (show AOp _ _ ⟨_, .convert _ _ _, _, _, _, _⟩ _ _ _; first | refine Bs hG Y Y Y Y Y (by omega) ?_ | refine r_cv_u8 hG Y Y Y Y Y (by omega) ?_ | refine Bc hG Y Y Y Y Y ?_)
      | (show AOp _ _ ⟨_, .buildSlice _ _ _, _, _, _, _⟩ _ _ _; first | refine r_mk (sz := 1) hG Y Y Y Y Y Y Y ?_)
      | (show AOp _ _ ⟨_, .box _ _, _, _, _, _⟩ _ _ _; refine r_box hG Y Y Y (fun i => ?_))
      | (show AOp _ _ ⟨_, .call ⟨.value _, _, _⟩, _, _, _, _⟩ _ _ _; first | refine A7 Y Y Y Y Y (by apply hP1 <;> (first | assumption | omega | exact Ae _ _ | exact Ak _ | exact Am _ _ | exact Ay _ | rfl | (simp; omega))) ?_ | refine A7 Y Y Y Y Y (by apply hP2 <;> (first | assumption | omega | exact Ae _ _ | exact Ak _ | exact Am _ _ | exact Ay _ | rfl | (simp; omega))) ?_ | refine A7 Y Y Y Y Y (by apply hP4 <;> (first | assumption | omega | exact Ae _ _ | exact Ak _ | exact Am _ _ | exact Ay _ | rfl | (simp; omega))) ?_ | fail)
      | refine r_q hG Y Y Y ?_); try exact kk)
    | (show AL _ _ _ _ _ _ _ _; first | refine Bd Y Y Y ?_ | (refine Al ?_; first | show AW _ _ _ _ _ _ | show ∃ x', _ < _ ∧ _)) | (show AW _ _ (.seq _ _) _ _ _; refine Af ?_; intro Q1) | (show AW _ _ (.region _ _ false) _ _ _; refine Ad ?_; intro O1) | (show AW _ _ (.cond _ _ _) _ _ _; first | refine Ai Y ?_ | refine Ah Y ?_) | (show AW _ _ (.skip) _ _ _; refine Ag ?_; first | show AW _ _ _ _ _ _ | show ∃ x', _ < _ ∧ _) | (show AW _ _ (.block _ _) _ _ _; refine Aw ?_; intro Q1) | (show AW _ _ (.ret) _ _ _; refine Av ?_; try dsimp only [Ar, Aa, Ap, Ab])
    | (show DL _ _ _ _ _ _ _; refine dl_d Y Y (fun K kt kf => Aq hG Y Y Y Y Y kt kf) (fun h => ?_) (fun h => ?_))
    | (show DL _ _ _ _ _ _ _; refine dl_s Y Y Y ?_) | (show DL _ _ _ _ _ _ _; refine Bk ?_; first | show AW _ _ _ _ _ _ | show ∃ x', _ < _ ∧ _) | (show AW _ _ (.region _ _ true) _ _ _; refine A8 mix (by kernel_rfl) ?_; intro O1) | fail)
    exact A9 (A2 rfl A3) (.eq (congrArg sT (by simp [putBs]))) rfl
  rw [if_neg k3]
  by_cases k4 : c.op = 6 ∨ c.op = 7 ∨ c.op = 9 ∨ c.op = 11
  · rw [if_pos k4]
    rcases k4 with k | k | k | k
    · refine A5 (N := 80) (rs := [.tmp 2]) hG Try.func10 rfl rfl rfl rfl rfl ?_
      repeat' (first
    | ((first | (show AL _ _ _ _ _ _ _ _; refine Ac Y ?_) | (show DL _ _ _ _ _ _ _; refine' Be Y Y (fun K kk => ?_) ?_; try (show Go.Ts.T; rotate_left))); (first
      | (show AOp _ _ ⟨_, .move _, _, _, _, _⟩ _ _ _; refine Ao hG Y Y ?_)
      | (show AOp _ _ ⟨_, .assign _, _, _, _, _⟩ _ _ _; refine A1 hG Y Y ?_)
      | (show AOp _ _ ⟨_, .binOp _ _ _ _ _, _, _, _, _⟩ _ _ _; first | refine Au hG Y Y Y Y Y (by omega) ?_ | refine As hG Y Y Y Y Y (by omega) ?_ | ((fail_if_success have := kk); refine Aq hG Y Y Y Y Y (fun h => ?_) (fun h => ?_)))
      | (show AOp _ _ ⟨_, .load _ _, _, _, _, _⟩ _ _ _; first | refine Aj 0 hG Y Y Y Y ?_ | refine Aj 1 hG Y Y Y Y ?_)
      | (show AOp _ _ ⟨_, .convert _ _ _, _, _, _, _⟩ _ _ _; first | refine Bs hG Y Y Y Y Y (by omega) ?_ | refine r_cv_u8 hG Y Y Y Y Y (by omega) ?_ | refine Bc hG Y Y Y Y Y ?_)
      | (show AOp _ _ ⟨_, .buildSlice _ _ _, _, _, _, _⟩ _ _ _; first | refine r_mk (sz := 1) hG Y Y Y Y Y Y Y ?_)
      | (show AOp _ _ ⟨_, .box _ _, _, _, _, _⟩ _ _ _; refine r_box hG Y Y Y (fun i => ?_))
      | (show AOp _ _ ⟨_, .call ⟨.value _, _, _⟩, _, _, _, _⟩ _ _ _; first | refine A7 Y Y Y Y Y (by apply hP1 <;> (first | assumption | omega | exact Ae _ _ | exact Ak _ | exact Am _ _ | exact Ay _ | rfl | (simp; omega))) ?_ | fail)
      | refine r_q hG Y Y Y ?_); try exact kk)
    | (show AL _ _ _ _ _ _ _ _; first | refine Bd Y Y Y ?_ | (refine Al ?_; first | show AW _ _ _ _ _ _ | show ∃ x', _ < _ ∧ _)) | (show AW _ _ (.seq _ _) _ _ _; refine Af ?_; intro Q1) | (show AW _ _ (.region _ _ false) _ _ _; refine Ad ?_; intro O1) | (show AW _ _ (.cond _ _ _) _ _ _; first | refine Ai Y ?_ | refine Ah Y ?_) | (show AW _ _ (.skip) _ _ _; refine Ag ?_; first | show AW _ _ _ _ _ _ | show ∃ x', _ < _ ∧ _) | (show AW _ _ (.block _ _) _ _ _; refine Aw ?_; intro Q1) | (show AW _ _ (.ret) _ _ _; refine Av ?_; try dsimp only [Ar, Aa, Ap, Ab])
    | (show DL _ _ _ _ _ _ _; refine dl_d Y Y (fun K kt kf => Aq hG Y Y Y Y Y kt kf) (fun h => ?_) (fun h => ?_))
    | (show DL _ _ _ _ _ _ _; refine dl_s Y Y Y ?_) | (show DL _ _ _ _ _ _ _; refine Bk ?_; first | show AW _ _ _ _ _ _ | show ∃ x', _ < _ ∧ _) | (show AW _ _ (.region _ _ true) _ _ _; refine A8 mix (by kernel_rfl) ?_; intro O1) | fail)
      exact A9 (A2 rfl A3) (.refl _) rfl
    · refine A5 (N := 80) (rs := [.tmp 2]) hG Try.func10 rfl rfl rfl rfl rfl ?_
      repeat' (first
    | ((first | (show AL _ _ _ _ _ _ _ _; refine Ac Y ?_) | (show DL _ _ _ _ _ _ _; refine' Be Y Y (fun K kk => ?_) ?_; try (show Go.Ts.T; rotate_left))); (first
      | (show AOp _ _ ⟨_, .move _, _, _, _, _⟩ _ _ _; refine Ao hG Y Y ?_)
      | (show AOp _ _ ⟨_, .assign _, _, _, _, _⟩ _ _ _; refine A1 hG Y Y ?_)
      | (show AOp _ _ ⟨_, .binOp _ _ _ _ _, _, _, _, _⟩ _ _ _; first | refine Au hG Y Y Y Y Y (by omega) ?_ | refine As hG Y Y Y Y Y (by omega) ?_ | ((fail_if_success have := kk); refine Aq hG Y Y Y Y Y (fun h => ?_) (fun h => ?_)))
      | (show AOp _ _ ⟨_, .load _ _, _, _, _, _⟩ _ _ _; first | refine Aj 0 hG Y Y Y Y ?_ | refine Aj 1 hG Y Y Y Y ?_)
      | (show AOp _ _ ⟨_, .convert _ _ _, _, _, _, _⟩ _ _ _; first | refine Bs hG Y Y Y Y Y (by omega) ?_ | refine r_cv_u8 hG Y Y Y Y Y (by omega) ?_ | refine Bc hG Y Y Y Y Y ?_)
      | (show AOp _ _ ⟨_, .buildSlice _ _ _, _, _, _, _⟩ _ _ _; first | refine r_mk (sz := 1) hG Y Y Y Y Y Y Y ?_)
      | (show AOp _ _ ⟨_, .box _ _, _, _, _, _⟩ _ _ _; refine r_box hG Y Y Y (fun i => ?_))
      | (show AOp _ _ ⟨_, .call ⟨.value _, _, _⟩, _, _, _, _⟩ _ _ _; first | refine A7 Y Y Y Y Y (by apply hP1 <;> (first | assumption | omega | exact Ae _ _ | exact Ak _ | exact Am _ _ | exact Ay _ | rfl | (simp; omega))) ?_ | fail)
      | refine r_q hG Y Y Y ?_); try exact kk)
    | (show AL _ _ _ _ _ _ _ _; first | refine Bd Y Y Y ?_ | (refine Al ?_; first | show AW _ _ _ _ _ _ | show ∃ x', _ < _ ∧ _)) | (show AW _ _ (.seq _ _) _ _ _; refine Af ?_; intro Q1) | (show AW _ _ (.region _ _ false) _ _ _; refine Ad ?_; intro O1) | (show AW _ _ (.cond _ _ _) _ _ _; first | refine Ai Y ?_ | refine Ah Y ?_) | (show AW _ _ (.skip) _ _ _; refine Ag ?_; first | show AW _ _ _ _ _ _ | show ∃ x', _ < _ ∧ _) | (show AW _ _ (.block _ _) _ _ _; refine Aw ?_; intro Q1) | (show AW _ _ (.ret) _ _ _; refine Av ?_; try dsimp only [Ar, Aa, Ap, Ab])
    | (show DL _ _ _ _ _ _ _; refine dl_d Y Y (fun K kt kf => Aq hG Y Y Y Y Y kt kf) (fun h => ?_) (fun h => ?_))
    | (show DL _ _ _ _ _ _ _; refine dl_s Y Y Y ?_) | (show DL _ _ _ _ _ _ _; refine Bk ?_; first | show AW _ _ _ _ _ _ | show ∃ x', _ < _ ∧ _) | (show AW _ _ (.region _ _ true) _ _ _; refine A8 mix (by kernel_rfl) ?_; intro O1) | fail)
      exact A9 (A2 rfl A3) (.refl _) rfl
    · refine A5 (N := 80) (rs := [.tmp 2]) hG Try.func10 rfl rfl rfl rfl rfl ?_
      repeat' (first
    | ((first | (show AL _ _ _ _ _ _ _ _; refine Ac Y ?_) | (show DL _ _ _ _ _ _ _; refine' Be Y Y (fun K kk => ?_) ?_; try (show Go.Ts.T; rotate_left))); (first
      | (show AOp _ _ ⟨_, .move _, _, _, _, _⟩ _ _ _; refine Ao hG Y Y ?_)
      | (show AOp _ _ ⟨_, .assign _, _, _, _, _⟩ _ _ _; refine A1 hG Y Y ?_)
      | (show AOp _ _ ⟨_, .binOp _ _ _ _ _, _, _, _, _⟩ _ _ _; first | refine Au hG Y Y Y Y Y (by omega) ?_ | refine As hG Y Y Y Y Y (by omega) ?_ | ((fail_if_success have := kk); refine Aq hG Y Y Y Y Y (fun h => ?_) (fun h => ?_)))
      | (show AOp _ _ ⟨_, .load _ _, _, _, _, _⟩ _ _ _; first | refine Aj 0 hG Y Y Y Y ?_ | refine Aj 1 hG Y Y Y Y ?_)
      | (show AOp _ _ ⟨_, .convert _ _ _, _, _, _, _⟩ _ _ _; first | refine Bs hG Y Y Y Y Y (by omega) ?_ | refine r_cv_u8 hG Y Y Y Y Y (by omega) ?_ | refine Bc hG Y Y Y Y Y ?_)
      | (show AOp _ _ ⟨_, .buildSlice _ _ _, _, _, _, _⟩ _ _ _; first | refine r_mk (sz := 1) hG Y Y Y Y Y Y Y ?_)
      | (show AOp _ _ ⟨_, .box _ _, _, _, _, _⟩ _ _ _; refine r_box hG Y Y Y (fun i => ?_))
      | (show AOp _ _ ⟨_, .call ⟨.value _, _, _⟩, _, _, _, _⟩ _ _ _; first | refine A7 Y Y Y Y Y (by apply hP1 <;> (first | assumption | omega | exact Ae _ _ | exact Ak _ | exact Am _ _ | exact Ay _ | rfl | (simp; omega))) ?_ | fail)
      | refine r_q hG Y Y Y ?_); try exact kk)
    | (show AL _ _ _ _ _ _ _ _; first | refine Bd Y Y Y ?_ | (refine Al ?_; first | show AW _ _ _ _ _ _ | show ∃ x', _ < _ ∧ _)) | (show AW _ _ (.seq _ _) _ _ _; refine Af ?_; intro Q1) | (show AW _ _ (.region _ _ false) _ _ _; refine Ad ?_; intro O1) | (show AW _ _ (.cond _ _ _) _ _ _; first | refine Ai Y ?_ | refine Ah Y ?_) | (show AW _ _ (.skip) _ _ _; refine Ag ?_; first | show AW _ _ _ _ _ _ | show ∃ x', _ < _ ∧ _) | (show AW _ _ (.block _ _) _ _ _; refine Aw ?_; intro Q1) | (show AW _ _ (.ret) _ _ _; refine Av ?_; try dsimp only [Ar, Aa, Ap, Ab])
    | (show DL _ _ _ _ _ _ _; refine dl_d Y Y (fun K kt kf => Aq hG Y Y Y Y Y kt kf) (fun h => ?_) (fun h => ?_))
    | (show DL _ _ _ _ _ _ _; refine dl_s Y Y Y ?_) | (show DL _ _ _ _ _ _ _; refine Bk ?_; first | show AW _ _ _ _ _ _ | show ∃ x', _ < _ ∧ _) | (show AW _ _ (.region _ _ true) _ _ _; refine A8 mix (by kernel_rfl) ?_; intro O1) | fail)
      exact A9 (A2 rfl A3) (.refl _) rfl
    · refine A5 (N := 80) (rs := [.tmp 2]) hG Try.func10 rfl rfl rfl rfl rfl ?_
      repeat' (first
    | ((first | (show AL _ _ _ _ _ _ _ _; refine Ac Y ?_) | (show DL _ _ _ _ _ _ _; refine' Be Y Y (fun K kk => ?_) ?_; try (show Go.Ts.T; rotate_left))); (first
      | (show AOp _ _ ⟨_, .move _, _, _, _, _⟩ _ _ _; refine Ao hG Y Y ?_)
      | (show AOp _ _ ⟨_, .assign _, _, _, _, _⟩ _ _ _; refine A1 hG Y Y ?_)
      | (show AOp _ _ ⟨_, .binOp _ _ _ _ _, _, _, _, _⟩ _ _ _; first | refine Au hG Y Y Y Y Y (by omega) ?_ | refine As hG Y Y Y Y Y (by omega) ?_ | ((fail_if_success have := kk); refine Aq hG Y Y Y Y Y (fun h => ?_) (fun h => ?_)))
      | (show AOp _ _ ⟨_, .load _ _, _, _, _, _⟩ _ _ _; first | refine Aj 0 hG Y Y Y Y ?_ | refine Aj 1 hG Y Y Y Y ?_)
      | (show AOp _ _ ⟨_, .convert _ _ _, _, _, _, _⟩ _ _ _; first | refine Bs hG Y Y Y Y Y (by omega) ?_ | refine r_cv_u8 hG Y Y Y Y Y (by omega) ?_ | refine Bc hG Y Y Y Y Y ?_)
      | (show AOp _ _ ⟨_, .buildSlice _ _ _, _, _, _, _⟩ _ _ _; first | refine r_mk (sz := 1) hG Y Y Y Y Y Y Y ?_)
      | (show AOp _ _ ⟨_, .box _ _, _, _, _, _⟩ _ _ _; refine r_box hG Y Y Y (fun i => ?_))
      | (show AOp _ _ ⟨_, .call ⟨.value _, _, _⟩, _, _, _, _⟩ _ _ _; first | refine A7 Y Y Y Y Y (by apply hP1 <;> (first | assumption | omega | exact Ae _ _ | exact Ak _ | exact Am _ _ | exact Ay _ | rfl | (simp; omega))) ?_ | fail)
      | refine r_q hG Y Y Y ?_); try exact kk)
    | (show AL _ _ _ _ _ _ _ _; first | refine Bd Y Y Y ?_ | (refine Al ?_; first | show AW _ _ _ _ _ _ | show ∃ x', _ < _ ∧ _)) | (show AW _ _ (.seq _ _) _ _ _; refine Af ?_; intro Q1) | (show AW _ _ (.region _ _ false) _ _ _; refine Ad ?_; intro O1) | (show AW _ _ (.cond _ _ _) _ _ _; first | refine Ai Y ?_ | refine Ah Y ?_) | (show AW _ _ (.skip) _ _ _; refine Ag ?_; first | show AW _ _ _ _ _ _ | show ∃ x', _ < _ ∧ _) | (show AW _ _ (.block _ _) _ _ _; refine Aw ?_; intro Q1) | (show AW _ _ (.ret) _ _ _; refine Av ?_; try dsimp only [Ar, Aa, Ap, Ab])
    | (show DL _ _ _ _ _ _ _; refine dl_d Y Y (fun K kt kf => Aq hG Y Y Y Y Y kt kf) (fun h => ?_) (fun h => ?_))
    | (show DL _ _ _ _ _ _ _; refine dl_s Y Y Y ?_) | (show DL _ _ _ _ _ _ _; refine Bk ?_; first | show AW _ _ _ _ _ _ | show ∃ x', _ < _ ∧ _) | (show AW _ _ (.region _ _ true) _ _ _; refine A8 mix (by kernel_rfl) ?_; intro O1) | fail)
      exact A9 (A2 rfl A3) (.refl _) rfl
  rw [if_neg k4]
  by_cases k5 : c.op = 8
  · rw [if_pos k5]
    refine A5 (N := 80) (rs := [.tmp 2]) hG Try.func10 rfl rfl rfl rfl rfl ?_
    repeat' (first
    | ((first | (show AL _ _ _ _ _ _ _ _; refine Ac Y ?_) | (show DL _ _ _ _ _ _ _; refine' Be Y Y (fun K kk => ?_) ?_; try (show Go.Ts.T; rotate_left))); (first
      | (show AOp _ _ ⟨_, .move _, _, _, _, _⟩ _ _ _; refine Ao hG Y Y ?_)
      | (show AOp _ _ ⟨_, .assign _, _, _, _, _⟩ _ _ _; refine A1 hG Y Y ?_)
      | (show AOp _ _ ⟨_, .binOp _ _ _ _ _, _, _, _, _⟩ _ _ _; first | refine Au hG Y Y Y Y Y (by omega) ?_ | refine As hG Y Y Y Y Y (by omega) ?_ | ((fail_if_success have := kk); refine Aq hG Y Y Y Y Y (fun h => ?_) (fun h => ?_)))
      | (show AOp _ _ ⟨_, .load _ _, _, _, _, _⟩ _ _ _; first | refine Aj 0 hG Y Y Y Y ?_ | refine Aj 1 hG Y Y Y Y ?_)
      | (show AOp _ _ ⟨_, .convert _ _ _, _, _, _, _⟩ _ _ _; first | refine Bs hG Y Y Y Y Y (by omega) ?_ | refine r_cv_u8 hG Y Y Y Y Y (by omega) ?_ | refine Bc hG Y Y Y Y Y ?_)
      | (show AOp _ _ ⟨_, .buildSlice _ _ _, _, _, _, _⟩ _ _ _; first | refine r_mk (sz := 1) hG Y Y Y Y Y Y Y ?_)
      | (show AOp _ _ ⟨_, .box _ _, _, _, _, _⟩ _ _ _; refine r_box hG Y Y Y (fun i => ?_))
      | (show AOp _ _ ⟨_, .call ⟨.value _, _, _⟩, _, _, _, _⟩ _ _ _; first | refine A7 Y Y Y Y Y (by apply hP1 <;> (first | assumption | omega | exact Ae _ _ | exact Ak _ | exact Am _ _ | exact Ay _ | rfl | (simp; omega))) ?_ | refine A7 Y Y Y Y Y (by apply hP5 <;> (first | assumption | omega | exact Ae _ _ | exact Ak _ | exact Am _ _ | exact Ay _ | rfl | (simp; omega))) ?_ | fail)
      | refine r_q hG Y Y Y ?_); try exact kk)
    | (show AL _ _ _ _ _ _ _ _; first | refine Bd Y Y Y ?_ | (refine Al ?_; first | show AW _ _ _ _ _ _ | show ∃ x', _ < _ ∧ _)) | (show AW _ _ (.seq _ _) _ _ _; refine Af ?_; intro Q1) | (show AW _ _ (.region _ _ false) _ _ _; refine Ad ?_; intro O1) | (show AW _ _ (.cond _ _ _) _ _ _; first | refine Ai Y ?_ | refine Ah Y ?_) | (show AW _ _ (.skip) _ _ _; refine Ag ?_; first | show AW _ _ _ _ _ _ | show ∃ x', _ < _ ∧ _) | (show AW _ _ (.block _ _) _ _ _; refine Aw ?_; intro Q1) | (show AW _ _ (.ret) _ _ _; refine Av ?_; try dsimp only [Ar, Aa, Ap, Ab])
    | (show DL _ _ _ _ _ _ _; refine dl_d Y Y (fun K kt kf => Aq hG Y Y Y Y Y kt kf) (fun h => ?_) (fun h => ?_))
    | (show DL _ _ _ _ _ _ _; refine dl_s Y Y Y ?_) | (show DL _ _ _ _ _ _ _; refine Bk ?_; first | show AW _ _ _ _ _ _ | show ∃ x', _ < _ ∧ _) | (show AW _ _ (.region _ _ true) _ _ _; refine A8 mix (by kernel_rfl) ?_; intro O1) | fail)
    exact A9 (A2 rfl A3) (.eq (congrArg sT (by simp [putBs]))) rfl
  rw [if_neg k5]
  by_cases k6 : c.op = 10
  · rw [if_pos k6]
    refine A5 (N := 80) (rs := [.tmp 2]) hG Try.func10 rfl rfl rfl rfl rfl ?_
    repeat' (first
    | ((first | (show AL _ _ _ _ _ _ _ _; refine Ac Y ?_) | (show DL _ _ _ _ _ _ _; refine' Be Y Y (fun K kk => ?_) ?_; try (show Go.Ts.T; rotate_left))); (first
      | (show AOp _ _ ⟨_, .move _, _, _, _, _⟩ _ _ _; refine Ao hG Y Y ?_)
      | (show AOp _ _ ⟨_, .assign _, _, _, _, _⟩ _ _ _; refine A1 hG Y Y ?_)
      | (show AOp _ _ ⟨_, .binOp _ _ _ _ _, _, _, _, _⟩ _ _ _; first | refine Au hG Y Y Y Y Y (by omega) ?_ | refine As hG Y Y Y Y Y (by omega) ?_ | ((fail_if_success have := kk); refine Aq hG Y Y Y Y Y (fun h => ?_) (fun h => ?_)))
      | (show AOp _ _ ⟨_, .load _ _, _, _, _, _⟩ _ _ _; first | refine Aj 0 hG Y Y Y Y ?_ | refine Aj 1 hG Y Y Y Y ?_)
      | (show AOp _ _ ⟨_, .convert _ _ _, _, _, _, _⟩ _ _ _; first | refine Bs hG Y Y Y Y Y (by omega) ?_ | refine r_cv_u8 hG Y Y Y Y Y (by omega) ?_ | refine Bc hG Y Y Y Y Y ?_)
      | (show AOp _ _ ⟨_, .buildSlice _ _ _, _, _, _, _⟩ _ _ _; first | refine r_mk (sz := 1) hG Y Y Y Y Y Y Y ?_)
      | (show AOp _ _ ⟨_, .box _ _, _, _, _, _⟩ _ _ _; refine r_box hG Y Y Y (fun i => ?_))
      | (show AOp _ _ ⟨_, .call ⟨.value _, _, _⟩, _, _, _, _⟩ _ _ _; first | refine A7 Y Y Y Y Y (by apply hP1 <;> (first | assumption | omega | exact Ae _ _ | exact Ak _ | exact Am _ _ | exact Ay _ | rfl | (simp; omega))) ?_ | refine A7 Y Y Y Y Y (by apply hP6 <;> (first | assumption | omega | exact Ae _ _ | exact Ak _ | exact Am _ _ | exact Ay _ | rfl | (simp; omega))) ?_ | refine A7 Y Y Y Y Y (by apply hP7 <;> (first | assumption | omega | exact Ae _ _ | exact Ak _ | exact Am _ _ | exact Ay _ | rfl | (simp; omega))) ?_ | fail)
      | refine r_q hG Y Y Y ?_); try exact kk)
    | (show AL _ _ _ _ _ _ _ _; first | refine Bd Y Y Y ?_ | (refine Al ?_; first | show AW _ _ _ _ _ _ | show ∃ x', _ < _ ∧ _)) | (show AW _ _ (.seq _ _) _ _ _; refine Af ?_; intro Q1) | (show AW _ _ (.region _ _ false) _ _ _; refine Ad ?_; intro O1) | (show AW _ _ (.cond _ _ _) _ _ _; first | refine Ai Y ?_ | refine Ah Y ?_) | (show AW _ _ (.skip) _ _ _; refine Ag ?_; first | show AW _ _ _ _ _ _ | show ∃ x', _ < _ ∧ _) | (show AW _ _ (.block _ _) _ _ _; refine Aw ?_; intro Q1) | (show AW _ _ (.ret) _ _ _; refine Av ?_; try dsimp only [Ar, Aa, Ap, Ab])
    | (show DL _ _ _ _ _ _ _; refine dl_d Y Y (fun K kt kf => Aq hG Y Y Y Y Y kt kf) (fun h => ?_) (fun h => ?_))
    | (show DL _ _ _ _ _ _ _; refine dl_s Y Y Y ?_) | (show DL _ _ _ _ _ _ _; refine Bk ?_; first | show AW _ _ _ _ _ _ | show ∃ x', _ < _ ∧ _) | (show AW _ _ (.region _ _ true) _ _ _; refine A8 mix (by kernel_rfl) ?_; intro O1) | fail)
    exact A9 (A2 rfl A3) (.eq (congrArg sT (by simp))) rfl
  · rw [if_neg k6]
    refine A5 (N := 80) (rs := [.tmp 2]) hG Try.func10 rfl rfl rfl rfl rfl ?_
    repeat' (first
    | ((first | (show AL _ _ _ _ _ _ _ _; refine Ac Y ?_) | (show DL _ _ _ _ _ _ _; refine' Be Y Y (fun K kk => ?_) ?_; try (show Go.Ts.T; rotate_left))); (first
      | (show AOp _ _ ⟨_, .move _, _, _, _, _⟩ _ _ _; refine Ao hG Y Y ?_)
      | (show AOp _ _ ⟨_, .assign _, _, _, _, _⟩ _ _ _; refine A1 hG Y Y ?_)
      | (show AOp _ _ ⟨_, .binOp _ _ _ _ _, _, _, _, _⟩ _ _ _; first | refine Au hG Y Y Y Y Y (by omega) ?_ | refine As hG Y Y Y Y Y (by omega) ?_ | ((fail_if_success have := kk); refine Aq hG Y Y Y Y Y (fun h => ?_) (fun h => ?_)))
      | (show AOp _ _ ⟨_, .load _ _, _, _, _, _⟩ _ _ _; first | refine Aj 0 hG Y Y Y Y ?_ | refine Aj 1 hG Y Y Y Y ?_)
      | (show AOp _ _ ⟨_, .convert _ _ _, _, _, _, _⟩ _ _ _; first | refine Bs hG Y Y Y Y Y (by omega) ?_ | refine r_cv_u8 hG Y Y Y Y Y (by omega) ?_ | refine Bc hG Y Y Y Y Y ?_)
      | (show AOp _ _ ⟨_, .buildSlice _ _ _, _, _, _, _⟩ _ _ _; first | refine r_mk (sz := 1) hG Y Y Y Y Y Y Y ?_)
      | (show AOp _ _ ⟨_, .box _ _, _, _, _, _⟩ _ _ _; refine r_box hG Y Y Y (fun i => ?_))
      | refine r_q hG Y Y Y ?_); try exact kk)
    | (show AL _ _ _ _ _ _ _ _; first | refine Bd Y Y Y ?_ | (refine Al ?_; first | show AW _ _ _ _ _ _ | show ∃ x', _ < _ ∧ _)) | (show AW _ _ (.seq _ _) _ _ _; refine Af ?_; intro Q1) | (show AW _ _ (.region _ _ false) _ _ _; refine Ad ?_; intro O1) | (show AW _ _ (.cond _ _ _) _ _ _; first | refine Ai Y ?_ | refine Ah Y ?_) | (show AW _ _ (.skip) _ _ _; refine Ag ?_; first | show AW _ _ _ _ _ _ | show ∃ x', _ < _ ∧ _) | (show AW _ _ (.block _ _) _ _ _; refine Aw ?_; intro Q1) | (show AW _ _ (.ret) _ _ _; refine Av ?_; try dsimp only [Ar, Aa, Ap, Ab])
    | (show DL _ _ _ _ _ _ _; refine dl_d Y Y (fun K kt kf => Aq hG Y Y Y Y Y kt kf) (fun h => ?_) (fun h => ?_))
    | (show DL _ _ _ _ _ _ _; refine dl_s Y Y Y ?_) | (show DL _ _ _ _ _ _ _; refine Bk ?_; first | show AW _ _ _ _ _ _ | show ∃ x', _ < _ ∧ _) | (show AW _ _ (.region _ _ true) _ _ _; refine A8 mix (by kernel_rfl) ?_; intro O1) | fail)
    exact A9 (A2 rfl A3) (by rw [hop]; exact Wk.own _ _ _) rfl
end Go.Proofs.Ytemgmkoggnjgjaa
namespace Go.Proofs.Ytemgmkoggnjgjaa
open Go.Ts Go.Sets
set_option linter.unusedSimpArgs false
set_option linter.unusedVariables false
attribute [local irreducible] Go.Ts.AW Go.Ts.AOps Go.Ts.AL Go.Ts.AOp Go.Ts.ACalls Go.Ts.DL Go.Ts.DQ Go.Ts.EL
theorem ref_Same0 : Ts.Pure Try.prog 20 [.agg [.int .u8 0, .sl 2 .no []], .agg [.int .u8 0, .nilsl]] (.bool true) := by
  intro off
  have n0 : ([] : List T).length = 0 := rfl
  refine A5 (N := 38) (rs := [.tmp 4]) hG Try.func20 rfl rfl rfl rfl rfl ?_
  repeat' (first
    | ((first | (show AL _ _ _ _ _ _ _ _; refine Ac Y ?_) | (show DL _ _ _ _ _ _ _; refine' Be Y Y (fun K kk => ?_) ?_; try (show Go.Ts.T; rotate_left))); (first
      | (show AOp _ _ ⟨_, .move _, _, _, _, _⟩ _ _ _; refine Ao hG Y Y ?_)
      | (show AOp _ _ ⟨_, .assign _, _, _, _, _⟩ _ _ _; refine A1 hG Y Y ?_)
      | (show AOp _ _ ⟨_, .call ⟨.builtin .len, _, _⟩, _, _, _, _⟩ _ _ _; first | refine Bb hG Y Y Y Y ?_ | refine Bi hG Y Y Y Y Y ?_)
      | (show AOp _ _ ⟨_, .binOp .add _ _ _ _, _, _, _, _⟩ _ _ _; first | refine Az hG Y Y Y Y Y (by omega) ?_)
      | (show AOp _ _ ⟨_, .binOp _ _ _ _ _, _, _, _, _⟩ _ _ _; first | refine Au hG Y Y Y Y Y (by omega) ?_ | refine As hG Y Y Y Y Y (by omega) ?_ | ((fail_if_success have := kk); refine Aq hG Y Y Y Y Y (fun h => ?_) (fun h => ?_)) | refine r_bin' hG Y Y Y ?_)
      | (show AOp _ _ ⟨_, .load _ _, _, _, _, _⟩ _ _ _; first | refine Bo hG Y Y Y ?_ | refine Aj 0 hG Y Y Y Y ?_ | refine Aj 1 hG Y Y Y Y ?_ | refine Aj 2 hG Y Y Y Y ?_)
      | (show AOp _ _ ⟨_, .indexAddr _ _ _, _, _, _, _⟩ _ _ _; first | refine Bn hG Y Y Y Y Y Y Y (by omega) ?_ | refine Bp hG Y Y Y Y Y Y Y (by omega) ?_ | refine r_idx hG Y Y ?_)
      | (show AOp _ _ ⟨_, .pick _ _ _, _, _, _, _⟩ _ _ _; refine r_pick hG Y Y Y ?_)
      | (show AOp _ _ ⟨_, .box _ _, _, _, _, _⟩ _ _ _; refine r_box hG Y Y Y (fun i => ?_))
      | refine r_q hG Y Y Y ?_); try exact kk)
    | (show AL _ _ _ _ _ _ _ _; first | refine Bd Y Y Y ?_ | (refine Al ?_; first | show AW _ _ _ _ _ _ | show ∃ x', _ < _ ∧ _)) | (show AW _ _ (.seq _ _) _ _ _; refine Af ?_; intro Q1) | (show AW _ _ (.region _ _ false) _ _ _; refine Ad ?_; intro O1) | (show AW _ _ (.cond _ _ _) _ _ _; first | refine Ai Y ?_ | refine Ah Y ?_) | (show AW _ _ (.skip) _ _ _; refine Ag ?_; first | show AW _ _ _ _ _ _ | show ∃ x', _ < _ ∧ _) | (show AW _ _ (.block _ _) _ _ _; refine Aw ?_; intro Q1) | (show AW _ _ (.exit _) _ _ _; refine Bx ?_; first | show AW _ _ _ _ _ _ | show ∃ x', _ < _ ∧ _) | (show AW _ _ (.ret) _ _ _; refine Av ?_; try dsimp only [Ar, Aa, Ap, Ab])
    | (show DL _ _ _ _ _ _ _; refine dl_d Y Y (fun K kt kf => Aq hG Y Y Y Y Y kt kf) (fun h => ?_) (fun h => ?_))
    | (show DL _ _ _ _ _ _ _; refine dl_s Y Y Y ?_) | (show DL _ _ _ _ _ _ _; refine Bk ?_; first | show AW _ _ _ _ _ _ | show ∃ x', _ < _ ∧ _) | (show AW _ _ (.region _ _ true) _ _ _; refine A8 mix (by kernel_rfl) ?_; intro O1) | fail)
  refine aw_loop (X := Nat × Nat) (fun x => [(2, .ptr x.1 0), (3, .ptr x.2 0), (5, .int .i64 0)]) (fun x => ⟨[(x.2, .cells [.int .u8 0, .nilsl]), (x.1, .cells [.int .u8 0, .sl 2 .no []])], [], off, none⟩) (fun x => 0) ⟨_, _⟩ ?_ (.refl _) ?_
  · exact .cons rfl (.cons rfl (.cons rfl (.nil _)))
  rintro ⟨i, j⟩
  dsimp only
  repeat' (first
    | ((first | (show AL _ _ _ _ _ _ _ _; refine Ac Y ?_) | (show DL _ _ _ _ _ _ _; refine' Be Y Y (fun K kk => ?_) ?_; try (show Go.Ts.T; rotate_left))); (first
      | (show AOp _ _ ⟨_, .move _, _, _, _, _⟩ _ _ _; refine Ao hG Y Y ?_)
      | (show AOp _ _ ⟨_, .assign _, _, _, _, _⟩ _ _ _; refine A1 hG Y Y ?_)
      | (show AOp _ _ ⟨_, .call ⟨.builtin .len, _, _⟩, _, _, _, _⟩ _ _ _; first | refine Bb hG Y Y Y Y ?_ | refine Bi hG Y Y Y Y Y ?_)
      | (show AOp _ _ ⟨_, .binOp .add _ _ _ _, _, _, _, _⟩ _ _ _; first | refine Az hG Y Y Y Y Y (by omega) ?_)
      | (show AOp _ _ ⟨_, .binOp _ _ _ _ _, _, _, _, _⟩ _ _ _; first | refine Au hG Y Y Y Y Y (by omega) ?_ | refine As hG Y Y Y Y Y (by omega) ?_ | ((fail_if_success have := kk); refine Aq hG Y Y Y Y Y (fun h => ?_) (fun h => ?_)) | refine r_bin' hG Y Y Y ?_)
      | (show AOp _ _ ⟨_, .load _ _, _, _, _, _⟩ _ _ _; first | refine Bo hG Y Y Y ?_ | refine Aj 0 hG Y Y Y Y ?_ | refine Aj 1 hG Y Y Y Y ?_ | refine Aj 2 hG Y Y Y Y ?_)
      | (show AOp _ _ ⟨_, .indexAddr _ _ _, _, _, _, _⟩ _ _ _; first | refine Bn hG Y Y Y Y Y Y Y (by omega) ?_ | refine Bp hG Y Y Y Y Y Y Y (by omega) ?_ | refine r_idx hG Y Y ?_)
      | (show AOp _ _ ⟨_, .pick _ _ _, _, _, _, _⟩ _ _ _; refine r_pick hG Y Y Y ?_)
      | (show AOp _ _ ⟨_, .box _ _, _, _, _, _⟩ _ _ _; refine r_box hG Y Y Y (fun i => ?_))
      | refine r_q hG Y Y Y ?_); try exact kk)
    | (show AL _ _ _ _ _ _ _ _; first | refine Bd Y Y Y ?_ | (refine Al ?_; first | show AW _ _ _ _ _ _ | show ∃ x', _ < _ ∧ _)) | (show AW _ _ (.seq _ _) _ _ _; refine Af ?_; intro Q1) | (show AW _ _ (.region _ _ false) _ _ _; refine Ad ?_; intro O1) | (show AW _ _ (.cond _ _ _) _ _ _; first | refine Ai Y ?_ | refine Ah Y ?_) | (show AW _ _ (.skip) _ _ _; refine Ag ?_; first | show AW _ _ _ _ _ _ | show ∃ x', _ < _ ∧ _) | (show AW _ _ (.block _ _) _ _ _; refine Aw ?_; intro Q1) | (show AW _ _ (.exit _) _ _ _; refine Bx ?_; first | show AW _ _ _ _ _ _ | show ∃ x', _ < _ ∧ _) | (show AW _ _ (.ret) _ _ _; refine Av ?_; try dsimp only [Ar, Aa, Ap, Ab])
    | (show DL _ _ _ _ _ _ _; refine dl_d Y Y (fun K kt kf => Aq hG Y Y Y Y Y kt kf) (fun h => ?_) (fun h => ?_))
    | (show DL _ _ _ _ _ _ _; refine dl_s Y Y Y ?_) | (show DL _ _ _ _ _ _ _; refine Bk ?_; first | show AW _ _ _ _ _ _ | show ∃ x', _ < _ ∧ _) | (show AW _ _ (.region _ _ true) _ _ _; refine A8 mix (by kernel_rfl) ?_; intro O1) | fail)
  exact A9 (A2 rfl A3) (.refl _) rfl
set_option maxHeartbeats 1000000 in
theorem ref_SameCall0 : Ts.Pure Try.prog 9 [zeroK.t, .agg (zeroKC 0)] (.bool true) := by
  intro off
  have h1 := ref_SameSets (x := cT []) (y := cT []) (z := cT []) (x' := .nilsl) (y' := .nilsl) (z' := .nilsl) (Ay []) (Ay []) (Ay []) rfl rfl rfl (by simp) (by simp) (by simp) (by simp) (by simp) (by simp)
  have h2 := ref_SameSet (x := cT []) (y := .nilsl) (Ay []) rfl (by simp) (by simp)
  rw [decide_eq_true ⟨rfl, rfl, rfl⟩] at h1
  rw [decide_eq_true rfl] at h2
  unfold CO.t zeroK zeroKC
  dsimp only
  refine A5 (N := 75) (rs := [.tmp 4]) hG Try.func9 rfl rfl rfl rfl rfl ?_
  repeat' (first
    | ((show AL _ _ _ _ _ _ _ _; refine Ac Y ?_); (first
      | (show AOp _ _ ⟨_, .move _, _, _, _, _⟩ _ _ _; refine Ao hG Y Y ?_)
      | (show AOp _ _ ⟨_, .assign _, _, _, _, _⟩ _ _ _; refine A1 hG Y Y ?_)
      | (show AOp _ _ ⟨_, .binOp _ _ _ _ _, _, _, _, _⟩ _ _ _; first | refine Au hG Y Y Y Y Y (by omega) ?_ | refine As hG Y Y Y Y Y (by omega) ?_ | refine r_strT hG Y Y Y Y (by first | rfl | assumption) ?_ | refine r_strnF hG Y Y Y Y (by first | rfl | assumption) ?_ | refine r_strF hG Y Y Y Y (by assumption) ?_ | refine r_strnT hG Y Y Y Y (by assumption) ?_ | (refine Aq hG Y Y Y Y Y (fun h => ?_) (fun h => ?_)) | (first | refine r_str hG Y Y Y Y (fun h => ?_) (fun h => ?_) | refine r_strn hG Y Y Y Y (fun h => ?_) (fun h => ?_)))
      | (show AOp _ _ ⟨_, .load _ _, _, _, _, _⟩ _ _ _; first | refine Aj 0 hG Y Y Y Y ?_ | refine Aj 1 hG Y Y Y Y ?_ | refine Aj 2 hG Y Y Y Y ?_)
      | (show AOp _ _ ⟨_, .convert _ _ _, _, _, _, _⟩ _ _ _; first | refine r_tostr hG Y Y Y Y Y Y Y Y (by first | exact Ae _ _ | exact Ak _ | rfl) ?_)
      | (show AOp _ _ ⟨_, .pick _ _ _, _, _, _, _⟩ _ _ _; refine r_pick hG Y Y Y ?_)
      | (show AOp _ _ ⟨_, .box _ _, _, _, _, _⟩ _ _ _; refine r_box hG Y Y Y (fun i => ?_))
      | (show AOp _ _ ⟨_, .call ⟨.value _, _, _⟩, _, _, _, _⟩ _ _ _; first | refine A7 Y Y Y Y Y (by apply h1 <;> (first | assumption | omega | exact Ae _ _ | exact Ak _ | exact Am _ _ | exact Ay _ | rfl | (simp; omega))) ?_ | refine A7 Y Y Y Y Y (by apply h2 <;> (first | assumption | omega | exact Ae _ _ | exact Ak _ | exact Am _ _ | exact Ay _ | rfl | (simp; omega))) ?_ | refine A7 Y Y Y Y Y (by apply ref_Same0 <;> (first | assumption | omega | exact Ae _ _ | exact Ak _ | exact Am _ _ | exact Ay _ | rfl | (simp; omega))) ?_ | fail)
      | refine r_q hG Y Y Y ?_))
    | (show AL _ _ _ _ _ _ _ _; first | refine Bd Y Y Y ?_ | (refine Al ?_; first | show AW _ _ _ _ _ _ | show ∃ x', _ < _ ∧ _)) | (show AW _ _ (.seq _ _) _ _ _; refine Af ?_; intro Q1) | (show AW _ _ (.region _ _ false) _ _ _; refine Ad ?_; intro O1) | (show AW _ _ (.ret) _ _ _; refine Av ?_; try dsimp only [Ar, Aa, Ap, Ab]) | fail)
  exact A9 (A2 rfl A3) (.refl _) rfl
set_option maxRecDepth 100000 in
theorem k1_begun : Ts.Pure Try.prog 7 [] (.bool true) := run_pure0 (M := mach noLive kn2) (mach_ok noLive kn2_ok) (n := 20000) (by kernel_rfl)
theorem abi1_Take_is {x : T} {b : List UInt8} {r : CO × Int} (hx : bytesT x = some b) (hl : b.length ≤ 4294967296) (h : takeK b = r) : Ts.Pure Try.prog 8 [x] (.tup [r.1.t, .int .i64 r.2]) := by
  subst h; exact abi1_Take hx hl
set_option maxHeartbeats 1000000 in
theorem call1Back_pure {b : List UInt8} {p : Int} {m : UInt8} (hb : b.length ≤ bigLen) : Ts.Pure Try.prog 3 [sT b, .int .i64 p, bT m] (.bool true) := by
  unfold bigLen at hb
  intro off
  by_cases h300 : 300 < b.length
  · refine A5 (N := 67) (rs := [.tmp 6]) hG Try.func3 rfl rfl rfl rfl rfl ?_
    repeat' (first
    | ((show AL _ _ _ _ _ _ _ _; refine Ac Y ?_); (first
      | (show AOp _ _ ⟨_, .move _, _, _, _, _⟩ _ _ _; refine Ao hG Y Y ?_)
      | (show AOp _ _ ⟨_, .assign _, _, _, _, _⟩ _ _ _; refine A1 hG Y Y ?_)
      | (show AOp _ _ ⟨_, .call ⟨.builtin .len, _, _⟩, _, _, _, _⟩ _ _ _; first | refine Bb hG Y Y Y Y ?_ | refine Bi hG Y Y Y Y Y ?_)
      | (show AOp _ _ ⟨_, .binOp _ _ _ _ _, _, _, _, _⟩ _ _ _; first | refine Au hG Y Y Y Y Y (by omega) ?_ | refine As hG Y Y Y Y Y (by omega) ?_ | refine r_strT hG Y Y Y Y (by first | rfl | assumption) ?_ | refine r_strnF hG Y Y Y Y (by first | rfl | assumption) ?_ | refine r_strF hG Y Y Y Y (by assumption) ?_ | refine r_strnT hG Y Y Y Y (by assumption) ?_ | (refine Aq hG Y Y Y Y Y (fun h => ?_) (fun h => ?_)) | (first | refine r_str hG Y Y Y Y (fun h => ?_) (fun h => ?_) | refine r_strn hG Y Y Y Y (fun h => ?_) (fun h => ?_)))
      | (show AOp _ _ ⟨_, .load _ _, _, _, _, _⟩ _ _ _; first | refine Aj 0 hG Y Y Y Y ?_ | refine Aj 1 hG Y Y Y Y ?_ | refine Aj 2 hG Y Y Y Y ?_ | refine Aj 3 hG Y Y Y Y ?_)
      | (show AOp _ _ ⟨_, .convert _ _ _, _, _, _, _⟩ _ _ _; first | refine r_tostr hG Y Y Y Y Y Y Y Y (by first | exact Ae _ _ | exact Ak _ | rfl) ?_)
      | (show AOp _ _ ⟨_, .slice _ _ _ _ _, _, _, _, _⟩ _ _ _; first | refine r_sl_hin hG Y Y Y Y Y Y Y (by omega) ?_ | refine r_sl_hi hG Y Y Y Y Y Y Y (by omega) ?_ | refine op_cut0 hG Y Y Y Y Y Y Y Y Y Y ?_ | refine r_sl hG Y Y ?_)
      | (show AOp _ _ ⟨_, .pick _ _ _, _, _, _, _⟩ _ _ _; refine r_pick hG Y Y Y ?_)
      | (show AOp _ _ ⟨_, .unOp _ _ _, _, _, _, _⟩ _ _ _; refine r_not hG Y Y Y ?_)
      | (show AOp _ _ ⟨_, .buildSlice _ _ _, _, _, _, _⟩ _ _ _; first | refine r_mk (sz := 1) hG Y Y Y Y Y Y Y ?_)
      | (show AOp _ _ ⟨_, .build _ _, _, _, _, _⟩ _ _ _; refine B0 hG Y Y Y Y Y ?_)
      | (show AOp _ _ ⟨_, .alloc _, _, _, _, _⟩ _ _ _; refine Bg hG Y Y (fun i => ?_))
      | (show AOp _ _ ⟨_, .store _ _ _, _, _, _, _⟩ _ _ _; first | refine Ax 0 hG Y Y Y Y Y Y Y ?_ | refine Ax 1 hG Y Y Y Y Y Y Y ?_ | refine Ax 2 hG Y Y Y Y Y Y Y ?_ | refine Ax 3 hG Y Y Y Y Y Y Y ?_)
      | (show AOp _ _ ⟨_, .call ⟨.builtin .append, _, _⟩, _, _, _, _⟩ _ _ _; first | refine Bq (sz := 1) (xs := []) hG Y Y Y Y Y Y Y ⟨_, Y⟩ Y Y Y Y Y Y Y (by first | omega | (simp; omega)) (fun k => ?_) | refine Bv 0 hG Y Y Y Y Y Y Y ⟨_, Y⟩ Y Y Y Y Y (by first | omega | (simp only [List.length_append, List.length_cons, List.length_nil]; omega)) (fun k => ?_) | fail)
      | (show AOp _ _ ⟨_, .call ⟨.value _, _, _⟩, _, _, _, _⟩ _ _ _; first | refine A7 Y Y Y Y Y (by apply k1_begun <;> (first | assumption | omega | exact Ae _ _ | exact Ak _ | exact Am _ _ | exact Ay _ | rfl | (simp; omega))) ?_ | fail)
      | refine r_q hG Y Y Y ?_))
    | (show AL _ _ _ _ _ _ _ _; first | refine Bd Y Y Y ?_ | (refine Al ?_; first | show AW _ _ _ _ _ _ | show ∃ x', _ < _ ∧ _)) | (show AW _ _ (.seq _ _) _ _ _; refine Af ?_; intro Q1) | (show AW _ _ (.region _ _ false) _ _ _; refine Ad ?_; intro O1) | (show AW _ _ (.cond _ _ _) _ _ _; first | refine Ai Y ?_ | refine Ah Y ?_) | (show AW _ _ (.skip) _ _ _; refine Ag ?_; first | show AW _ _ _ _ _ _ | show ∃ x', _ < _ ∧ _) | (show AW _ _ (.ret) _ _ _; refine Av ?_; try dsimp only [Ar, Aa, Ap, Ab]) | fail)
    exact A9 (A2 rfl A3) (.refl _) rfl
  have hT := abi1_Take_is (x := sT b) (Ak b) (by omega) rfl
  have hz := takeK_zero (b := b)
  have hf := takeK_fits b
  have hk := takeK_facts (b := b)
  generalize takeK b = r at *
  obtain ⟨c, e⟩ := r
  dsimp only at hT hz hf hk
  by_cases he : e = 0
  · obtain ⟨k1, k2, k3⟩ := hk he
    subst he
    have hP := abi1_Put hf
    rw [← k1] at hP
    have hne : 1 ≤ b.length := by rw [k1]; unfold bytesK; rw [List.length_append, putI_len _ _ (by omega)]; omega
    have hpc := law_Place (p := p) (n := (b.length : Int)) (by omega)
    have hpn := placeN_lt (p := p) (n := (b.length : Int)) (by omega)
    have hsh := k3 (placeN p (b.length : Int)).toNat (by omega)
    have hT2 := abi1_Take_is (x := sT (b.take (placeN p (b.length : Int)).toNat)) (Ak _) (by rw [List.length_take]; omega) rfl
    have hT3 := fun k => abi1_Take_is (x := .sl 1 (.tok k) ((b ++ [m]).map bT)) (b := b ++ [m]) (r := (zeroK, 2)) (Ae _ _) (by simp; omega) (k2 m)
    generalize takeK (b.take (placeN p (b.length : Int)).toNat) = r2 at *
    obtain ⟨c2, e2⟩ := r2
    dsimp only at hsh hT2 hT3
    subst hsh
    unfold CO.t at hT hP hT2 hT3
    refine A5 (N := 67) (rs := [.tmp 6]) hG Try.func3 rfl rfl rfl rfl rfl ?_
    repeat' (first
    | ((show AL _ _ _ _ _ _ _ _; refine Ac Y ?_); (first
      | (show AOp _ _ ⟨_, .move _, _, _, _, _⟩ _ _ _; refine Ao hG Y Y ?_)
      | (show AOp _ _ ⟨_, .assign _, _, _, _, _⟩ _ _ _; refine A1 hG Y Y ?_)
      | (show AOp _ _ ⟨_, .call ⟨.builtin .len, _, _⟩, _, _, _, _⟩ _ _ _; first | refine Bb hG Y Y Y Y ?_ | refine Bi hG Y Y Y Y Y ?_)
      | (show AOp _ _ ⟨_, .binOp _ _ _ _ _, _, _, _, _⟩ _ _ _; first | refine Au hG Y Y Y Y Y (by omega) ?_ | refine As hG Y Y Y Y Y (by omega) ?_ | refine r_strT hG Y Y Y Y (by first | rfl | assumption) ?_ | refine r_strnF hG Y Y Y Y (by first | rfl | assumption) ?_ | refine r_strF hG Y Y Y Y (by assumption) ?_ | refine r_strnT hG Y Y Y Y (by assumption) ?_ | (refine Aq hG Y Y Y Y Y (fun h => ?_) (fun h => ?_)) | (first | refine r_str hG Y Y Y Y (fun h => ?_) (fun h => ?_) | refine r_strn hG Y Y Y Y (fun h => ?_) (fun h => ?_)))
      | (show AOp _ _ ⟨_, .load _ _, _, _, _, _⟩ _ _ _; first | refine Aj 0 hG Y Y Y Y ?_ | refine Aj 1 hG Y Y Y Y ?_ | refine Aj 2 hG Y Y Y Y ?_ | refine Aj 3 hG Y Y Y Y ?_)
      | (show AOp _ _ ⟨_, .convert _ _ _, _, _, _, _⟩ _ _ _; first | refine r_tostr hG Y Y Y Y Y Y Y Y (by first | exact Ae _ _ | exact Ak _ | rfl) ?_)
      | (show AOp _ _ ⟨_, .slice _ _ _ _ _, _, _, _, _⟩ _ _ _; first | refine r_sl_hin hG Y Y Y Y Y Y Y (by omega) ?_ | refine r_sl_hi hG Y Y Y Y Y Y Y (by omega) ?_ | refine op_cut0 hG Y Y Y Y Y Y Y Y Y Y ?_ | refine r_sl hG Y Y ?_)
      | (show AOp _ _ ⟨_, .pick _ _ _, _, _, _, _⟩ _ _ _; refine r_pick hG Y Y Y ?_)
      | (show AOp _ _ ⟨_, .unOp _ _ _, _, _, _, _⟩ _ _ _; refine r_not hG Y Y Y ?_)
      | (show AOp _ _ ⟨_, .buildSlice _ _ _, _, _, _, _⟩ _ _ _; first | refine r_mk (sz := 1) hG Y Y Y Y Y Y Y ?_)
      | (show AOp _ _ ⟨_, .build _ _, _, _, _, _⟩ _ _ _; refine B0 hG Y Y Y Y Y ?_)
      | (show AOp _ _ ⟨_, .alloc _, _, _, _, _⟩ _ _ _; refine Bg hG Y Y (fun i => ?_))
      | (show AOp _ _ ⟨_, .store _ _ _, _, _, _, _⟩ _ _ _; first | refine Ax 0 hG Y Y Y Y Y Y Y ?_ | refine Ax 1 hG Y Y Y Y Y Y Y ?_ | refine Ax 2 hG Y Y Y Y Y Y Y ?_ | refine Ax 3 hG Y Y Y Y Y Y Y ?_)
      | (show AOp _ _ ⟨_, .call ⟨.builtin .append, _, _⟩, _, _, _, _⟩ _ _ _; first | refine Bq (sz := 1) (xs := []) hG Y Y Y Y Y Y Y ⟨_, Y⟩ Y Y Y Y Y Y Y (by first | omega | (simp; omega)) (fun k => ?_) | refine Bv 0 hG Y Y Y Y Y Y Y ⟨_, Y⟩ Y Y Y Y Y (by first | omega | (simp only [List.length_append, List.length_cons, List.length_nil]; omega)) (fun k => ?_) | fail)
      | (show AOp _ _ ⟨_, .call ⟨.value _, _, _⟩, _, _, _, _⟩ _ _ _; first | refine A7 Y Y Y Y Y (by apply k1_begun <;> (first | assumption | omega | exact Ae _ _ | exact Ak _ | exact Am _ _ | exact Ay _ | rfl | (simp; omega))) ?_ | refine A7 Y Y Y Y Y (by apply hT <;> (first | assumption | omega | exact Ae _ _ | exact Ak _ | exact Am _ _ | exact Ay _ | rfl | (simp; omega))) ?_ | refine A7 Y Y Y Y Y (by apply hP <;> (first | assumption | omega | exact Ae _ _ | exact Ak _ | exact Am _ _ | exact Ay _ | rfl | (simp; omega))) ?_ | refine A7 Y Y Y Y Y (by apply hpc <;> (first | assumption | omega | exact Ae _ _ | exact Ak _ | exact Am _ _ | exact Ay _ | rfl | (simp; omega))) ?_ | fail)
      | refine r_q hG Y Y Y ?_))
    | (show AL _ _ _ _ _ _ _ _; first | refine Bd Y Y Y ?_ | (refine Al ?_; first | show AW _ _ _ _ _ _ | show ∃ x', _ < _ ∧ _)) | (show AW _ _ (.seq _ _) _ _ _; refine Af ?_; intro Q1) | (show AW _ _ (.region _ _ false) _ _ _; refine Ad ?_; intro O1) | (show AW _ _ (.cond _ _ _) _ _ _; first | refine Ai Y ?_ | refine Ah Y ?_) | (show AW _ _ (.skip) _ _ _; refine Ag ?_; first | show AW _ _ _ _ _ _ | show ∃ x', _ < _ ∧ _) | (show AW _ _ (.ret) _ _ _; refine Av ?_; try dsimp only [Ar, Aa, Ap, Ab]) | fail)
    repeat' (first
    | ((show AL _ _ _ _ _ _ _ _; refine Ac Y ?_); (first
      | (show AOp _ _ ⟨_, .move _, _, _, _, _⟩ _ _ _; refine Ao hG Y Y ?_)
      | (show AOp _ _ ⟨_, .assign _, _, _, _, _⟩ _ _ _; refine A1 hG Y Y ?_)
      | (show AOp _ _ ⟨_, .call ⟨.builtin .len, _, _⟩, _, _, _, _⟩ _ _ _; first | refine Bb hG Y Y Y Y ?_ | refine Bi hG Y Y Y Y Y ?_)
      | (show AOp _ _ ⟨_, .binOp _ _ _ _ _, _, _, _, _⟩ _ _ _; first | refine Au hG Y Y Y Y Y (by omega) ?_ | refine As hG Y Y Y Y Y (by omega) ?_ | refine r_strT hG Y Y Y Y (by first | rfl | assumption) ?_ | refine r_strnF hG Y Y Y Y (by first | rfl | assumption) ?_ | refine r_strF hG Y Y Y Y (by assumption) ?_ | refine r_strnT hG Y Y Y Y (by assumption) ?_ | (refine Aq hG Y Y Y Y Y (fun h => ?_) (fun h => ?_)) | (first | refine r_str hG Y Y Y Y (fun h => ?_) (fun h => ?_) | refine r_strn hG Y Y Y Y (fun h => ?_) (fun h => ?_)))
      | (show AOp _ _ ⟨_, .load _ _, _, _, _, _⟩ _ _ _; first | refine Aj 0 hG Y Y Y Y ?_ | refine Aj 1 hG Y Y Y Y ?_ | refine Aj 2 hG Y Y Y Y ?_ | refine Aj 3 hG Y Y Y Y ?_)
      | (show AOp _ _ ⟨_, .convert _ _ _, _, _, _, _⟩ _ _ _; first | refine r_tostr hG Y Y Y Y Y Y Y Y (by first | exact Ae _ _ | exact Ak _ | rfl) ?_)
      | (show AOp _ _ ⟨_, .slice _ _ _ _ _, _, _, _, _⟩ _ _ _; first | refine r_sl_hin hG Y Y Y Y Y Y Y (by omega) ?_ | refine r_sl_hi hG Y Y Y Y Y Y Y (by omega) ?_ | refine op_cut0 hG Y Y Y Y Y Y Y Y Y Y ?_ | refine r_sl hG Y Y ?_)
      | (show AOp _ _ ⟨_, .pick _ _ _, _, _, _, _⟩ _ _ _; refine r_pick hG Y Y Y ?_)
      | (show AOp _ _ ⟨_, .unOp _ _ _, _, _, _, _⟩ _ _ _; refine r_not hG Y Y Y ?_)
      | (show AOp _ _ ⟨_, .buildSlice _ _ _, _, _, _, _⟩ _ _ _; first | refine r_mk (sz := 1) hG Y Y Y Y Y Y Y ?_)
      | (show AOp _ _ ⟨_, .build _ _, _, _, _, _⟩ _ _ _; refine B0 hG Y Y Y Y Y ?_)
      | (show AOp _ _ ⟨_, .alloc _, _, _, _, _⟩ _ _ _; refine Bg hG Y Y (fun i => ?_))
      | (show AOp _ _ ⟨_, .store _ _ _, _, _, _, _⟩ _ _ _; first | refine Ax 0 hG Y Y Y Y Y Y Y ?_ | refine Ax 1 hG Y Y Y Y Y Y Y ?_ | refine Ax 2 hG Y Y Y Y Y Y Y ?_ | refine Ax 3 hG Y Y Y Y Y Y Y ?_)
      | (show AOp _ _ ⟨_, .call ⟨.builtin .append, _, _⟩, _, _, _, _⟩ _ _ _; first | refine Bq (sz := 1) (xs := []) hG Y Y Y Y Y Y Y ⟨_, Y⟩ Y Y Y Y Y Y Y (by first | omega | (simp; omega)) (fun k => ?_) | refine Bv 0 hG Y Y Y Y Y Y Y ⟨_, Y⟩ Y Y Y Y Y (by first | omega | (simp only [List.length_append, List.length_cons, List.length_nil]; omega)) (fun k => ?_) | fail)
      | (show AOp _ _ ⟨_, .call ⟨.value _, _, _⟩, _, _, _, _⟩ _ _ _; first | refine A7 Y Y Y Y Y (by apply hT2 <;> (first | assumption | omega | exact Ae _ _ | exact Ak _ | exact Am _ _ | exact Ay _ | rfl | (simp; omega))) ?_ | fail)
      | refine r_q hG Y Y Y ?_))
    | (show AL _ _ _ _ _ _ _ _; first | refine Bd Y Y Y ?_ | (refine Al ?_; first | show AW _ _ _ _ _ _ | show ∃ x', _ < _ ∧ _)) | (show AW _ _ (.seq _ _) _ _ _; refine Af ?_; intro Q1) | (show AW _ _ (.region _ _ false) _ _ _; refine Ad ?_; intro O1) | (show AW _ _ (.cond _ _ _) _ _ _; first | refine Ai Y ?_ | refine Ah Y ?_) | (show AW _ _ (.skip) _ _ _; refine Ag ?_; first | show AW _ _ _ _ _ _ | show ∃ x', _ < _ ∧ _) | (show AW _ _ (.ret) _ _ _; refine Av ?_; try dsimp only [Ar, Aa, Ap, Ab]) | fail)
    repeat' (first
    | ((show AL _ _ _ _ _ _ _ _; refine Ac Y ?_); (first
      | (show AOp _ _ ⟨_, .move _, _, _, _, _⟩ _ _ _; refine Ao hG Y Y ?_)
      | (show AOp _ _ ⟨_, .assign _, _, _, _, _⟩ _ _ _; refine A1 hG Y Y ?_)
      | (show AOp _ _ ⟨_, .call ⟨.builtin .len, _, _⟩, _, _, _, _⟩ _ _ _; first | refine Bb hG Y Y Y Y ?_ | refine Bi hG Y Y Y Y Y ?_)
      | (show AOp _ _ ⟨_, .binOp _ _ _ _ _, _, _, _, _⟩ _ _ _; first | refine Au hG Y Y Y Y Y (by omega) ?_ | refine As hG Y Y Y Y Y (by omega) ?_ | refine r_strT hG Y Y Y Y (by first | rfl | assumption) ?_ | refine r_strnF hG Y Y Y Y (by first | rfl | assumption) ?_ | refine r_strF hG Y Y Y Y (by assumption) ?_ | refine r_strnT hG Y Y Y Y (by assumption) ?_ | (refine Aq hG Y Y Y Y Y (fun h => ?_) (fun h => ?_)) | (first | refine r_str hG Y Y Y Y (fun h => ?_) (fun h => ?_) | refine r_strn hG Y Y Y Y (fun h => ?_) (fun h => ?_)))
      | (show AOp _ _ ⟨_, .load _ _, _, _, _, _⟩ _ _ _; first | refine Aj 0 hG Y Y Y Y ?_ | refine Aj 1 hG Y Y Y Y ?_ | refine Aj 2 hG Y Y Y Y ?_ | refine Aj 3 hG Y Y Y Y ?_)
      | (show AOp _ _ ⟨_, .convert _ _ _, _, _, _, _⟩ _ _ _; first | refine r_tostr hG Y Y Y Y Y Y Y Y (by first | exact Ae _ _ | exact Ak _ | rfl) ?_)
      | (show AOp _ _ ⟨_, .slice _ _ _ _ _, _, _, _, _⟩ _ _ _; first | refine r_sl_hin hG Y Y Y Y Y Y Y (by omega) ?_ | refine r_sl_hi hG Y Y Y Y Y Y Y (by omega) ?_ | refine op_cut0 hG Y Y Y Y Y Y Y Y Y Y ?_ | refine r_sl hG Y Y ?_)
      | (show AOp _ _ ⟨_, .pick _ _ _, _, _, _, _⟩ _ _ _; refine r_pick hG Y Y Y ?_)
      | (show AOp _ _ ⟨_, .unOp _ _ _, _, _, _, _⟩ _ _ _; refine r_not hG Y Y Y ?_)
      | (show AOp _ _ ⟨_, .buildSlice _ _ _, _, _, _, _⟩ _ _ _; first | refine r_mk (sz := 1) hG Y Y Y Y Y Y Y ?_)
      | (show AOp _ _ ⟨_, .build _ _, _, _, _, _⟩ _ _ _; refine B0 hG Y Y Y Y Y ?_)
      | (show AOp _ _ ⟨_, .alloc _, _, _, _, _⟩ _ _ _; refine Bg hG Y Y (fun i => ?_))
      | (show AOp _ _ ⟨_, .store _ _ _, _, _, _, _⟩ _ _ _; first | refine Ax 0 hG Y Y Y Y Y Y Y ?_ | refine Ax 1 hG Y Y Y Y Y Y Y ?_ | refine Ax 2 hG Y Y Y Y Y Y Y ?_ | refine Ax 3 hG Y Y Y Y Y Y Y ?_)
      | (show AOp _ _ ⟨_, .call ⟨.builtin .append, _, _⟩, _, _, _, _⟩ _ _ _; first | refine Bv 0 (ys := [m]) hG Y Y Y Y Y Y Y ⟨_, Y⟩ Y Y Y Y Y (by simp only [List.length_append, List.length_map, List.length_cons, List.length_nil]; omega) (fun k => ?_) | refine Bq (sz := 1) (xs := []) hG Y Y Y Y Y Y Y ⟨_, Y⟩ Y Y Y Y Y Y Y (by first | omega | (simp; omega)) (fun k => ?_) | refine Bv 0 hG Y Y Y Y Y Y Y ⟨_, Y⟩ Y Y Y Y Y (by first | omega | (simp only [List.length_append, List.length_cons, List.length_nil]; omega)) (fun k => ?_) | fail)
      | (show AOp _ _ ⟨_, .call ⟨.value _, _, _⟩, _, _, _, _⟩ _ _ _; first | refine A7 Y Y Y Y Y (by apply hT3 <;> (first | assumption | omega | exact Ae _ _ | exact Ak _ | exact Am _ _ | exact Ay _ | rfl | (simp; omega))) ?_ | fail)
      | refine r_q hG Y Y Y ?_))
    | (show AL _ _ _ _ _ _ _ _; first | refine Bd Y Y Y ?_ | (refine Al ?_; first | show AW _ _ _ _ _ _ | show ∃ x', _ < _ ∧ _)) | (show AW _ _ (.seq _ _) _ _ _; refine Af ?_; intro Q1) | (show AW _ _ (.region _ _ false) _ _ _; refine Ad ?_; intro O1) | (show AW _ _ (.cond _ _ _) _ _ _; first | refine Ai Y ?_ | refine Ah Y ?_) | (show AW _ _ (.skip) _ _ _; refine Ag ?_; first | show AW _ _ _ _ _ _ | show ∃ x', _ < _ ∧ _) | (show AW _ _ (.ret) _ _ _; refine Av ?_; try dsimp only [Ar, Aa, Ap, Ab]) | fail)
    exact A9 (A2 rfl A3) (.refl _) rfl
  · have g := hz he
    subst g
    have hS := ref_SameCall0
    unfold CO.t at hT hS
    refine A5 (N := 67) (rs := [.tmp 6]) hG Try.func3 rfl rfl rfl rfl rfl ?_
    repeat' (first
    | ((show AL _ _ _ _ _ _ _ _; refine Ac Y ?_); (first
      | (show AOp _ _ ⟨_, .move _, _, _, _, _⟩ _ _ _; refine Ao hG Y Y ?_)
      | (show AOp _ _ ⟨_, .assign _, _, _, _, _⟩ _ _ _; refine A1 hG Y Y ?_)
      | (show AOp _ _ ⟨_, .call ⟨.builtin .len, _, _⟩, _, _, _, _⟩ _ _ _; first | refine Bb hG Y Y Y Y ?_ | refine Bi hG Y Y Y Y Y ?_)
      | (show AOp _ _ ⟨_, .binOp _ _ _ _ _, _, _, _, _⟩ _ _ _; first | refine Au hG Y Y Y Y Y (by omega) ?_ | refine As hG Y Y Y Y Y (by omega) ?_ | refine r_strT hG Y Y Y Y (by first | rfl | assumption) ?_ | refine r_strnF hG Y Y Y Y (by first | rfl | assumption) ?_ | refine r_strF hG Y Y Y Y (by assumption) ?_ | refine r_strnT hG Y Y Y Y (by assumption) ?_ | (refine Aq hG Y Y Y Y Y (fun h => ?_) (fun h => ?_)) | (first | refine r_str hG Y Y Y Y (fun h => ?_) (fun h => ?_) | refine r_strn hG Y Y Y Y (fun h => ?_) (fun h => ?_)))
      | (show AOp _ _ ⟨_, .load _ _, _, _, _, _⟩ _ _ _; first | refine Aj 0 hG Y Y Y Y ?_ | refine Aj 1 hG Y Y Y Y ?_ | refine Aj 2 hG Y Y Y Y ?_ | refine Aj 3 hG Y Y Y Y ?_)
      | (show AOp _ _ ⟨_, .convert _ _ _, _, _, _, _⟩ _ _ _; first | refine r_tostr hG Y Y Y Y Y Y Y Y (by first | exact Ae _ _ | exact Ak _ | rfl) ?_)
      | (show AOp _ _ ⟨_, .slice _ _ _ _ _, _, _, _, _⟩ _ _ _; first | refine r_sl_hin hG Y Y Y Y Y Y Y (by omega) ?_ | refine r_sl_hi hG Y Y Y Y Y Y Y (by omega) ?_ | refine op_cut0 hG Y Y Y Y Y Y Y Y Y Y ?_ | refine r_sl hG Y Y ?_)
      | (show AOp _ _ ⟨_, .pick _ _ _, _, _, _, _⟩ _ _ _; refine r_pick hG Y Y Y ?_)
      | (show AOp _ _ ⟨_, .unOp _ _ _, _, _, _, _⟩ _ _ _; refine r_not hG Y Y Y ?_)
      | (show AOp _ _ ⟨_, .buildSlice _ _ _, _, _, _, _⟩ _ _ _; first | refine r_mk (sz := 1) hG Y Y Y Y Y Y Y ?_)
      | (show AOp _ _ ⟨_, .build _ _, _, _, _, _⟩ _ _ _; refine B0 hG Y Y Y Y Y ?_)
      | (show AOp _ _ ⟨_, .alloc _, _, _, _, _⟩ _ _ _; refine Bg hG Y Y (fun i => ?_))
      | (show AOp _ _ ⟨_, .store _ _ _, _, _, _, _⟩ _ _ _; first | refine Ax 0 hG Y Y Y Y Y Y Y ?_ | refine Ax 1 hG Y Y Y Y Y Y Y ?_ | refine Ax 2 hG Y Y Y Y Y Y Y ?_ | refine Ax 3 hG Y Y Y Y Y Y Y ?_)
      | (show AOp _ _ ⟨_, .call ⟨.builtin .append, _, _⟩, _, _, _, _⟩ _ _ _; first | refine Bq (sz := 1) (xs := []) hG Y Y Y Y Y Y Y ⟨_, Y⟩ Y Y Y Y Y Y Y (by first | omega | (simp; omega)) (fun k => ?_) | refine Bv 0 hG Y Y Y Y Y Y Y ⟨_, Y⟩ Y Y Y Y Y (by first | omega | (simp only [List.length_append, List.length_cons, List.length_nil]; omega)) (fun k => ?_) | fail)
      | (show AOp _ _ ⟨_, .call ⟨.value _, _, _⟩, _, _, _, _⟩ _ _ _; first | refine A7 Y Y Y Y Y (by apply k1_begun <;> (first | assumption | omega | exact Ae _ _ | exact Ak _ | exact Am _ _ | exact Ay _ | rfl | (simp; omega))) ?_ | refine A7 Y Y Y Y Y (by apply hT <;> (first | assumption | omega | exact Ae _ _ | exact Ak _ | exact Am _ _ | exact Ay _ | rfl | (simp; omega))) ?_ | refine A7 Y Y Y Y Y (by apply hS <;> (first | assumption | omega | exact Ae _ _ | exact Ak _ | exact Am _ _ | exact Ay _ | rfl | (simp; omega))) ?_ | fail)
      | refine r_q hG Y Y Y ?_))
    | (show AL _ _ _ _ _ _ _ _; first | refine Bd Y Y Y ?_ | (refine Al ?_; first | show AW _ _ _ _ _ _ | show ∃ x', _ < _ ∧ _)) | (show AW _ _ (.seq _ _) _ _ _; refine Af ?_; intro Q1) | (show AW _ _ (.region _ _ false) _ _ _; refine Ad ?_; intro O1) | (show AW _ _ (.cond _ _ _) _ _ _; first | refine Ai Y ?_ | refine Ah Y ?_) | (show AW _ _ (.skip) _ _ _; refine Ag ?_; first | show AW _ _ _ _ _ _ | show ∃ x', _ < _ ∧ _) | (show AW _ _ (.ret) _ _ _; refine Av ?_; try dsimp only [Ar, Aa, Ap, Ab]) | fail)
    exact A9 (A2 rfl A3) (.refl _) rfl
theorem call1Back_law (_W : World) (y : T) (ty : ArgTy G 6 22 y) (p : Int) (_ : (Lit.int .i64 p).wf = true) (m : Int) (wm : (Lit.int .u8 m).wf = true) : ACalls Try.prog 3 [y, .int .i64 p, .int .u8 m] σ0 (fun r _ => r = .bool true) := by
  obtain ⟨b, rfl, hb⟩ := argTy_bytes ty rfl rfl rfl rfl rfl
  have e : T.int .u8 m = bT (UInt8.ofNat m.toNat) := by have := wf_u8 wm; unfold bT; congr 1; simp; omega
  rw [e]
  exact (call1Back_pure hb (fun _ _ => False)).mono fun _ _ h => h.1
end Go.Proofs.Ytemgmkoggnjgjaa
