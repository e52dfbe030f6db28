/- Part of the proof of the law Call1Back: the texts S1, S2, S3, PC, S5, RP, OP0, O1, S7, S8, S9, S11, LA, LB, LP, P2. No conditions. -/
import Derived.Test.YtemgmkoggnjgjaaCall1BackB
set_option linter.unusedSimpArgs false
set_option linter.unusedVariables false
namespace Go.Proofs.Ytemgmkoggnjgjaa
open Go.Ts
attribute [local irreducible] Go.Ts.AW Go.Ts.AOps Go.Ts.AL Go.Ts.AOp Go.Ts.ACalls Go.Ts.DL
theorem mix : Try.prog.follows .mixedOrders = true := by kernel_rfl

theorem clone_b {x : T} {b : List UInt8} (hx : bytesT x = some b) (hl : b.length ≤ 4294967296) : Owns Try.prog 43 [x] 1 (b.map bT) := by
  refine Owns.weak (us := [sT b]) ?_ (wk1 (bytesT_wk hx))
  intro off
  refine A5 (N := 8) (rs := [.tmp 2]) hG Try.func43 rfl rfl rfl rfl rfl ?_
  repeat' (first
    | ((show AL _ _ _ _ _ _ _ _; refine Ac Y ?_); (first
      | (show AOp _ _ ⟨_, .move _, _, _, _, _⟩ _ _ _; refine Ao hG Y Y ?_)
      | (show AOp _ _ ⟨_, .assign _, _, _, _, _⟩ _ _ _; refine A1 hG Y Y ?_)
      | (show AOp _ _ ⟨_, .binOp _ _ _ _ _, _, _, _, _⟩ _ _ _; first | refine r_bin' hG Y Y Y ?_)
      | (show AOp _ _ ⟨_, .buildSlice _ _ _, _, _, _, _⟩ _ _ _; first | refine r_mk (sz := 1) hG Y Y Y Y Y Y Y ?_)
      | (show AOp _ _ ⟨_, .call ⟨.builtin .append, _, _⟩, _, _, _, _⟩ _ _ _; first | refine Bq (sz := 1) (xs := []) hG Y Y Y Y Y Y Y ⟨_, Y⟩ Y Y Y Y Y Y Y (by first | omega | (simp; omega)) (fun k => ?_) | refine Bv 0 hG Y Y Y Y Y Y Y ⟨_, Y⟩ Y Y Y Y Y (by first | omega | (simp only [List.length_append, List.length_cons, List.length_nil]; omega)) (fun k => ?_) | fail)
      | refine r_q hG Y Y Y ?_))
    | (show AL _ _ _ _ _ _ _ _; first | refine Bd Y Y Y ?_ | (refine Al ?_; first | show AW _ _ _ _ _ _ | show ∃ x', _ < _ ∧ _)) | (show AW _ _ (.seq _ _) _ _ _; refine Af ?_; intro Q1) | (show AW _ _ (.region _ _ false) _ _ _; refine Ad ?_; intro O1) | (show AW _ _ (.cond _ _ _) _ _ _; first | refine Ai Y ?_ | refine Ah Y ?_) | (show AW _ _ (.skip) _ _ _; refine Ag ?_; first | show AW _ _ _ _ _ _ | show ∃ x', _ < _ ∧ _) | (show AW _ _ (.ret) _ _ _; refine Av ?_; try dsimp only [Ar, Aa, Ap, Ab]) | fail)
  refine Ac rfl (op_eqnil hG rfl rfl rfl rfl rfl rfl rfl rfl (fun b hb => ?_))
  cases b with
  | true =>
    repeat' (first
    | ((show AL _ _ _ _ _ _ _ _; refine Ac Y ?_); (first
      | (show AOp _ _ ⟨_, .move _, _, _, _, _⟩ _ _ _; refine Ao hG Y Y ?_)
      | (show AOp _ _ ⟨_, .assign _, _, _, _, _⟩ _ _ _; refine A1 hG Y Y ?_)
      | (show AOp _ _ ⟨_, .binOp _ _ _ _ _, _, _, _, _⟩ _ _ _; first | refine r_bin' hG Y Y Y ?_)
      | (show AOp _ _ ⟨_, .buildSlice _ _ _, _, _, _, _⟩ _ _ _; first | refine r_mk (sz := 1) hG Y Y Y Y Y Y Y ?_)
      | (show AOp _ _ ⟨_, .call ⟨.builtin .append, _, _⟩, _, _, _, _⟩ _ _ _; first | refine Bq (sz := 1) (xs := []) hG Y Y Y Y Y Y Y ⟨_, Y⟩ Y Y Y Y Y Y Y (by first | omega | (simp; omega)) (fun k => ?_) | refine Bv 0 hG Y Y Y Y Y Y Y ⟨_, Y⟩ Y Y Y Y Y (by first | omega | (simp only [List.length_append, List.length_cons, List.length_nil]; omega)) (fun k => ?_) | fail)
      | refine r_q hG Y Y Y ?_))
    | (show AL _ _ _ _ _ _ _ _; first | refine Bd Y Y Y ?_ | (refine Al ?_; first | show AW _ _ _ _ _ _ | show ∃ x', _ < _ ∧ _)) | (show AW _ _ (.seq _ _) _ _ _; refine Af ?_; intro Q1) | (show AW _ _ (.region _ _ false) _ _ _; refine Ad ?_; intro O1) | (show AW _ _ (.cond _ _ _) _ _ _; first | refine Ai Y ?_ | refine Ah Y ?_) | (show AW _ _ (.skip) _ _ _; refine Ag ?_; first | show AW _ _ _ _ _ _ | show ∃ x', _ < _ ∧ _) | (show AW _ _ (.ret) _ _ _; refine Av ?_; try dsimp only [Ar, Aa, Ap, Ab]) | fail)
    exact ret_owns0 (sz := 1) (A2 rfl A3) rfl rfl (by rw [hb rfl]) rfl
  | false =>
    repeat' (first
    | ((show AL _ _ _ _ _ _ _ _; refine Ac Y ?_); (first
      | (show AOp _ _ ⟨_, .move _, _, _, _, _⟩ _ _ _; refine Ao hG Y Y ?_)
      | (show AOp _ _ ⟨_, .assign _, _, _, _, _⟩ _ _ _; refine A1 hG Y Y ?_)
      | (show AOp _ _ ⟨_, .binOp _ _ _ _ _, _, _, _, _⟩ _ _ _; first | refine r_bin' hG Y Y Y ?_)
      | (show AOp _ _ ⟨_, .buildSlice _ _ _, _, _, _, _⟩ _ _ _; first | refine r_mk (sz := 1) hG Y Y Y Y Y Y Y ?_)
      | (show AOp _ _ ⟨_, .call ⟨.builtin .append, _, _⟩, _, _, _, _⟩ _ _ _; first | refine Bq (sz := 1) (xs := []) hG Y Y Y Y Y Y Y ⟨_, Y⟩ Y Y Y Y Y Y Y (by first | omega | (simp; omega)) (fun k => ?_) | refine Bv 0 hG Y Y Y Y Y Y Y ⟨_, Y⟩ Y Y Y Y Y (by first | omega | (simp only [List.length_append, List.length_cons, List.length_nil]; omega)) (fun k => ?_) | fail)
      | refine r_q hG Y Y Y ?_))
    | (show AL _ _ _ _ _ _ _ _; first | refine Bd Y Y Y ?_ | (refine Al ?_; first | show AW _ _ _ _ _ _ | show ∃ x', _ < _ ∧ _)) | (show AW _ _ (.seq _ _) _ _ _; refine Af ?_; intro Q1) | (show AW _ _ (.region _ _ false) _ _ _; refine Ad ?_; intro O1) | (show AW _ _ (.cond _ _ _) _ _ _; first | refine Ai Y ?_ | refine Ah Y ?_) | (show AW _ _ (.skip) _ _ _; refine Ag ?_; first | show AW _ _ _ _ _ _ | show ∃ x', _ < _ ∧ _) | (show AW _ _ (.ret) _ _ _; refine Av ?_; try dsimp only [Ar, Aa, Ap, Ab]) | fail)
    exact ret_owns 0 (A2 rfl A3) rfl (by rfl) rfl

def be (v : Nat) : Nat → List UInt8
  | 0 => []
  | n + 1 => UInt8.ofNat (v / 2 ^ (8 * n)) :: be v n
def putI (v n : Int) : List UInt8 := if 0 ≤ n ∧ n ≤ 8 then be v.toNat n.toNat else []
theorem be_length (v n : Nat) : (be v n).length = n := by induction n <;> simp [be, *]
theorem putI_le (v n : Int) : (putI v n).length ≤ 8 := by
  unfold putI; split
  · rw [be_length]; omega
  · simp
theorem bT_of (n : Int) (k : Nat) (h : n = (k : Int)) : T.int .u8 (IntKind.u8.wrap n) = bT (UInt8.ofNat k) := by
  subst h; rw [u8_wrap]; unfold bT; congr 1

structure PutX (v n : Int) where
  hn : 0 ≤ n ∧ n ≤ 8
  i : Nat
  pre : List UInt8
  k : Nat
  hi : i ≤ 8
  hp : pre ++ be v.toNat i = be v.toNat n.toNat
theorem num_Put {x : T} {b : List UInt8} {v n : Int} (hx : bytesT x = some b) (hl : b.length ≤ 4294967000) (hv : 0 ≤ v) :
    Owns Try.prog 25 [x, .int .u64 v, .int .i64 n] 1 ((b ++ putI v n).map bT) := by
  refine Owns.weak (us := [sT b, .int .u64 v, .int .i64 n]) ?_ (wk3 (bytesT_wk hx) (.refl _) (.refl _))
  intro off
  refine A5 (N := 33) (rs := [.tmp 6]) hG Try.func25 rfl rfl rfl rfl rfl ?_
  repeat' (first
    | ((show AL _ _ _ _ _ _ _ _; refine Ac Y ?_); (first
      | (show AOp _ _ ⟨_, .move _, _, _, _, _⟩ _ _ _; refine Ao hG Y Y ?_)
      | (show AOp _ _ ⟨_, .assign _, _, _, _, _⟩ _ _ _; refine A1 hG Y Y ?_)
      | (show AOp _ _ ⟨_, .binOp .sub _ _ _ _, _, _, _, _⟩ _ _ _; first | refine Az hG Y Y Y Y Y (by omega) ?_)
      | (show AOp _ _ ⟨_, .binOp .mul _ _ _ _, _, _, _, _⟩ _ _ _; first | refine Az hG Y Y Y Y Y (by omega) ?_)
      | (show AOp _ _ ⟨_, .binOp .shr _ _ _ _, _, _, _, _⟩ _ _ _; refine r_shr hG Y Y Y Y (by omega) ?_)
      | (show AOp _ _ ⟨_, .binOp _ _ _ _ _, _, _, _, _⟩ _ _ _; first | refine Au hG Y Y Y Y Y (by omega) ?_ | refine As hG Y Y Y Y Y (by omega) ?_ | (refine Aq hG Y Y Y Y Y (fun h => ?_) (fun h => ?_)))
      | (show AOp _ _ ⟨_, .convert _ _ _, _, _, _, _⟩ _ _ _; first | refine Bs hG Y Y Y Y Y (by omega) ?_ | refine r_cv_u8 hG Y Y Y Y Y (by omega) ?_ | refine Bc hG Y Y Y Y Y ?_)
      | (show AOp _ _ ⟨_, .pick _ _ _, _, _, _, _⟩ _ _ _; refine r_pick hG Y Y Y ?_)
      | (show AOp _ _ ⟨_, .buildSlice _ _ _, _, _, _, _⟩ _ _ _; first | refine r_mk (sz := 1) hG Y Y Y Y Y Y Y ?_)
      | (show AOp _ _ ⟨_, .call ⟨.builtin .append, _, _⟩, _, _, _, _⟩ _ _ _; first | refine Bq (sz := 1) (xs := []) hG Y Y Y Y Y Y Y ⟨_, Y⟩ Y Y Y Y Y Y Y (by first | omega | (simp; omega)) (fun k => ?_) | refine Bv 0 hG Y Y Y Y Y Y Y ⟨_, Y⟩ Y Y Y Y Y (by first | omega | (simp only [List.length_append, List.length_cons, List.length_nil]; omega)) (fun k => ?_) | fail)
      | refine r_q hG Y Y Y ?_))
    | (show AL _ _ _ _ _ _ _ _; first | refine Bd Y Y Y ?_ | (refine Al ?_; first | show AW _ _ _ _ _ _ | show ∃ x', _ < _ ∧ _)) | (show AW _ _ (.seq _ _) _ _ _; refine Af ?_; intro Q1) | (show AW _ _ (.region _ _ false) _ _ _; refine Ad ?_; intro O1) | (show AW _ _ (.cond _ _ _) _ _ _; first | refine Ai Y ?_ | refine Ah Y ?_) | (show AW _ _ (.skip) _ _ _; refine Ag ?_; first | show AW _ _ _ _ _ _ | show ∃ x', _ < _ ∧ _) | (show AW _ _ (.goto _) _ _ _; refine Bz ?_; try dsimp only [Ar, Aa, Ap, Ab]) | (show AW _ _ (.ret) _ _ _; refine Av ?_; try dsimp only [Ar, Aa, Ap, Ab]) | fail)
  refine aw_scope' 0 rfl (X := PutX v n) (fun x => [(1, .int .u64 v), (7, .sl 1 (.tok x.k) ((b ++ x.pre).map bT)), (8, .int .i64 x.i)]) (fun x => ⟨[], [x.k], off, none⟩) (fun x => x.i) ?_ ?_
  · rintro ⟨hn, i, pre, k, hi, hp⟩
    dsimp only
    repeat' (first
    | ((show AL _ _ _ _ _ _ _ _; refine Ac Y ?_); (first
      | (show AOp _ _ ⟨_, .move _, _, _, _, _⟩ _ _ _; refine Ao hG Y Y ?_)
      | (show AOp _ _ ⟨_, .assign _, _, _, _, _⟩ _ _ _; refine A1 hG Y Y ?_)
      | (show AOp _ _ ⟨_, .binOp .sub _ _ _ _, _, _, _, _⟩ _ _ _; first | refine Az hG Y Y Y Y Y (by omega) ?_)
      | (show AOp _ _ ⟨_, .binOp .mul _ _ _ _, _, _, _, _⟩ _ _ _; first | refine Az hG Y Y Y Y Y (by omega) ?_)
      | (show AOp _ _ ⟨_, .binOp .shr _ _ _ _, _, _, _, _⟩ _ _ _; refine r_shr hG Y Y Y Y (by omega) ?_)
      | (show AOp _ _ ⟨_, .binOp _ _ _ _ _, _, _, _, _⟩ _ _ _; first | refine Au hG Y Y Y Y Y (by omega) ?_ | refine As hG Y Y Y Y Y (by omega) ?_ | (refine Aq hG Y Y Y Y Y (fun h => ?_) (fun h => ?_)))
      | (show AOp _ _ ⟨_, .convert _ _ _, _, _, _, _⟩ _ _ _; first | refine Bs hG Y Y Y Y Y (by omega) ?_ | refine r_cv_u8 hG Y Y Y Y Y (by omega) ?_ | refine Bc hG Y Y Y Y Y ?_)
      | (show AOp _ _ ⟨_, .pick _ _ _, _, _, _, _⟩ _ _ _; refine r_pick hG Y Y Y ?_)
      | (show AOp _ _ ⟨_, .buildSlice _ _ _, _, _, _, _⟩ _ _ _; first | refine r_mk (sz := 1) hG Y Y Y Y Y Y Y ?_)
      | (show AOp _ _ ⟨_, .call ⟨.builtin .append, _, _⟩, _, _, _, _⟩ _ _ _; first | refine Bq (sz := 1) (xs := []) hG Y Y Y Y Y Y Y ⟨_, Y⟩ Y Y Y Y Y Y Y (by first | omega | (simp; omega)) (fun k => ?_) | refine Bv 0 hG Y Y Y Y Y Y Y ⟨_, Y⟩ Y Y Y Y Y (by first | omega | (simp only [List.length_append, List.length_cons, List.length_nil]; omega)) (fun k => ?_) | fail)
      | refine r_q hG Y Y Y ?_))
    | (show AL _ _ _ _ _ _ _ _; first | refine Bd Y Y Y ?_ | (refine Al ?_; first | show AW _ _ _ _ _ _ | show ∃ x', _ < _ ∧ _)) | (show AW _ _ (.seq _ _) _ _ _; refine Af ?_; intro Q1) | (show AW _ _ (.region _ _ false) _ _ _; refine Ad ?_; intro O1) | (show AW _ _ (.cond _ _ _) _ _ _; first | refine Ai Y ?_ | refine Ah Y ?_) | (show AW _ _ (.skip) _ _ _; refine Ag ?_; first | show AW _ _ _ _ _ _ | show ∃ x', _ < _ ∧ _) | (show AW _ _ (.goto _) _ _ _; refine Bz ?_; try dsimp only [Ar, Aa, Ap, Ab]) | (show AW _ _ (.ret) _ _ _; refine Av ?_; try dsimp only [Ar, Aa, Ap, Ab]) | fail)
    · obtain ⟨j, rfl⟩ : ∃ j, i = j + 1 := ⟨i - 1, by omega⟩
      have hpl2 : pre.length + (j + 1) = n.toNat := by have := congrArg List.length hp; simpa [be_length] using this
      have hbyte : T.int IntKind.u8 (IntKind.u8.wrap ((v : Int) / 2 ^ (min (8 * (((j + 1 : Nat) : Int) - 1)).toNat IntKind.u64.bits))) = bT (UInt8.ofNat (v.toNat / 2 ^ (8 * j))) := by
        have : min (8 * (((j + 1 : Nat) : Int) - 1)).toNat IntKind.u64.bits = 8 * j := by simp [IntKind.bits]; omega
        rw [this]
        obtain ⟨v, rfl⟩ := Int.eq_ofNat_of_zero_le hv
        exact bT_of _ _ (by simp)
      refine Ac rfl (Bv 0 (ys := [UInt8.ofNat (v.toNat / 2 ^ (8 * j))]) hG rfl rfl rfl rfl rfl rfl rfl ⟨_, rfl⟩ rfl rfl rfl rfl (congrArg (fun t => [t]) hbyte) (by simp; omega) (fun k' => ?_))
      repeat' (first
    | ((show AL _ _ _ _ _ _ _ _; refine Ac Y ?_); (first
      | (show AOp _ _ ⟨_, .move _, _, _, _, _⟩ _ _ _; refine Ao hG Y Y ?_)
      | (show AOp _ _ ⟨_, .assign _, _, _, _, _⟩ _ _ _; refine A1 hG Y Y ?_)
      | (show AOp _ _ ⟨_, .binOp .sub _ _ _ _, _, _, _, _⟩ _ _ _; first | refine Az hG Y Y Y Y Y (by omega) ?_)
      | (show AOp _ _ ⟨_, .binOp .mul _ _ _ _, _, _, _, _⟩ _ _ _; first | refine Az hG Y Y Y Y Y (by omega) ?_)
      | (show AOp _ _ ⟨_, .binOp .shr _ _ _ _, _, _, _, _⟩ _ _ _; refine r_shr hG Y Y Y Y (by omega) ?_)
      | (show AOp _ _ ⟨_, .binOp _ _ _ _ _, _, _, _, _⟩ _ _ _; first | refine Au hG Y Y Y Y Y (by omega) ?_ | refine As hG Y Y Y Y Y (by omega) ?_ | (refine Aq hG Y Y Y Y Y (fun h => ?_) (fun h => ?_)))
      | (show AOp _ _ ⟨_, .convert _ _ _, _, _, _, _⟩ _ _ _; first | refine Bs hG Y Y Y Y Y (by omega) ?_ | refine r_cv_u8 hG Y Y Y Y Y (by omega) ?_ | refine Bc hG Y Y Y Y Y ?_)
      | (show AOp _ _ ⟨_, .pick _ _ _, _, _, _, _⟩ _ _ _; refine r_pick hG Y Y Y ?_)
      | (show AOp _ _ ⟨_, .buildSlice _ _ _, _, _, _, _⟩ _ _ _; first | refine r_mk (sz := 1) hG Y Y Y Y Y Y Y ?_)
      | (show AOp _ _ ⟨_, .call ⟨.builtin .append, _, _⟩, _, _, _, _⟩ _ _ _; first | refine Bq (sz := 1) (xs := []) hG Y Y Y Y Y Y Y ⟨_, Y⟩ Y Y Y Y Y Y Y (by first | omega | (simp; omega)) (fun k => ?_) | refine Bv 0 hG Y Y Y Y Y Y Y ⟨_, Y⟩ Y Y Y Y Y (by first | omega | (simp only [List.length_append, List.length_cons, List.length_nil]; omega)) (fun k => ?_) | fail)
      | refine r_q hG Y Y Y ?_))
    | (show AL _ _ _ _ _ _ _ _; first | refine Bd Y Y Y ?_ | (refine Al ?_; first | show AW _ _ _ _ _ _ | show ∃ x', _ < _ ∧ _)) | (show AW _ _ (.seq _ _) _ _ _; refine Af ?_; intro Q1) | (show AW _ _ (.region _ _ false) _ _ _; refine Ad ?_; intro O1) | (show AW _ _ (.cond _ _ _) _ _ _; first | refine Ai Y ?_ | refine Ah Y ?_) | (show AW _ _ (.skip) _ _ _; refine Ag ?_; first | show AW _ _ _ _ _ _ | show ∃ x', _ < _ ∧ _) | (show AW _ _ (.goto _) _ _ _; refine Bz ?_; try dsimp only [Ar, Aa, Ap, Ab]) | (show AW _ _ (.ret) _ _ _; refine Av ?_; try dsimp only [Ar, Aa, Ap, Ab]) | fail)
      refine ⟨rfl, ⟨hn, j, pre ++ [UInt8.ofNat (v.toNat / 2 ^ (8 * j))], k', by omega, by rw [List.append_assoc]; exact hp⟩, by dsimp only; omega, ?_, .refl _⟩
      exact .cons rfl (.consW rfl (.eq (by simp)) (.consW rfl (.int (by simp)) (.nil _)))
    · have : i = 0 := by omega
      subst this
      simp only [be, List.append_nil] at hp
      exact ret_owns 0 (A2 rfl A3) rfl (by rw [hp, putI, if_pos hn]) rfl
  · intro key
    repeat' (first
    | ((show AL _ _ _ _ _ _ _ _; refine Ac Y ?_); (first
      | (show AOp _ _ ⟨_, .move _, _, _, _, _⟩ _ _ _; refine Ao hG Y Y ?_)
      | (show AOp _ _ ⟨_, .assign _, _, _, _, _⟩ _ _ _; refine A1 hG Y Y ?_)
      | (show AOp _ _ ⟨_, .binOp .sub _ _ _ _, _, _, _, _⟩ _ _ _; first | refine Az hG Y Y Y Y Y (by omega) ?_)
      | (show AOp _ _ ⟨_, .binOp .mul _ _ _ _, _, _, _, _⟩ _ _ _; first | refine Az hG Y Y Y Y Y (by omega) ?_)
      | (show AOp _ _ ⟨_, .binOp .shr _ _ _ _, _, _, _, _⟩ _ _ _; refine r_shr hG Y Y Y Y (by omega) ?_)
      | (show AOp _ _ ⟨_, .binOp _ _ _ _ _, _, _, _, _⟩ _ _ _; first | refine Au hG Y Y Y Y Y (by omega) ?_ | refine As hG Y Y Y Y Y (by omega) ?_ | (refine Aq hG Y Y Y Y Y (fun h => ?_) (fun h => ?_)))
      | (show AOp _ _ ⟨_, .convert _ _ _, _, _, _, _⟩ _ _ _; first | refine Bs hG Y Y Y Y Y (by omega) ?_ | refine r_cv_u8 hG Y Y Y Y Y (by omega) ?_ | refine Bc hG Y Y Y Y Y ?_)
      | (show AOp _ _ ⟨_, .pick _ _ _, _, _, _, _⟩ _ _ _; refine r_pick hG Y Y Y ?_)
      | (show AOp _ _ ⟨_, .buildSlice _ _ _, _, _, _, _⟩ _ _ _; first | refine r_mk (sz := 1) hG Y Y Y Y Y Y Y ?_)
      | (show AOp _ _ ⟨_, .call ⟨.builtin .append, _, _⟩, _, _, _, _⟩ _ _ _; first | refine Bq (sz := 1) (xs := []) hG Y Y Y Y Y Y Y ⟨_, Y⟩ Y Y Y Y Y Y Y (by first | omega | (simp; omega)) (fun k => ?_) | refine Bv 0 hG Y Y Y Y Y Y Y ⟨_, Y⟩ Y Y Y Y Y (by first | omega | (simp only [List.length_append, List.length_cons, List.length_nil]; omega)) (fun k => ?_) | fail)
      | (show AOp _ _ ⟨_, .call ⟨.value _, _, _⟩, _, _, _, _⟩ _ _ _; first | (refine r_owns Y Y Y Y Y (by apply clone_b <;> (first | assumption | omega | exact Ae _ _ | exact Ak _ | exact Am _ _ | exact Ay _ | rfl | (simp; omega))) (fun k => ?_)) | (have := kk; clear this; refine A7 Y Y Y Y Y (Owns.pure (by apply clone_b <;> (first | assumption | omega | exact Ae _ _ | exact Ak _ | exact Am _ _ | exact Ay _ | rfl | (simp; omega)))) ?_) | fail)
      | refine r_q hG Y Y Y ?_))
    | (show AL _ _ _ _ _ _ _ _; first | refine Bd Y Y Y ?_ | (refine Al ?_; first | show AW _ _ _ _ _ _ | show ∃ x', _ < _ ∧ _)) | (show AW _ _ (.seq _ _) _ _ _; refine Af ?_; intro Q1) | (show AW _ _ (.region _ _ false) _ _ _; refine Ad ?_; intro O1) | (show AW _ _ (.cond _ _ _) _ _ _; first | refine Ai Y ?_ | refine Ah Y ?_) | (show AW _ _ (.skip) _ _ _; refine Ag ?_; first | show AW _ _ _ _ _ _ | show ∃ x', _ < _ ∧ _) | (show AW _ _ (.goto _) _ _ _; refine Bz ?_; try dsimp only [Ar, Aa, Ap, Ab]) | (show AW _ _ (.ret) _ _ _; refine Av ?_; try dsimp only [Ar, Aa, Ap, Ab]) | fail)
    · exact ret_owns 0 (A2 rfl A3) rfl (by rw [putI, if_neg (by omega), List.append_nil]) rfl
    · exact ret_owns 0 (A2 rfl A3) rfl (by rw [putI, if_neg (by omega), List.append_nil]) rfl
    · refine aw_label ?_
      show AW _ _ _ _ _ _
      refine aw_forget ?_ (key ⟨by omega, n.toNat, [], k, by omega, rfl⟩)
      exact .cons rfl (.consW rfl (.eq (by simp)) (.consW rfl (.int (by simp; omega)) (.nil _)))

def beV (l : List UInt8) : Nat := l.foldl (fun a x => a * 256 + x.toNat) 0
theorem beV_snoc (l : List UInt8) (x : UInt8) : beV (l ++ [x]) = beV l * 256 + x.toNat := by simp [beV]
theorem beV_lt : ∀ n (l : List UInt8), l.length = n → beV l < 2 ^ (8 * n) := by
  intro n
  induction n with
  | zero => intro l h; simp at h; subst h; simp [beV]
  | succ n ih =>
    intro l h
    have hne : l ≠ [] := by intro h0; subst h0; simp at h
    have h1 : l = l.dropLast ++ [l.getLast hne] := (List.dropLast_concat_getLast hne).symm
    rw [h1, beV_snoc]
    have h2 := ih l.dropLast (by simp [h])
    have h3 : (l.getLast hne).toNat < 256 := UInt8.toNat_lt _
    have h4 : 2 ^ (8 * (n + 1)) = 2 ^ (8 * n) * 256 := by rw [show 8 * (n + 1) = 8 * n + 8 by omega, Nat.pow_add]
    rw [h4]; omega
theorem or_byte (v x : Nat) (hv : v * 256 < 2 ^ 64) (hx : x < 256) :
    IntKind.u64.wrap ((BitVec.ofInt IntKind.u64.bits (IntKind.u64.wrap ((v : Int) * 2 ^ (min (Int.toNat 8) IntKind.u64.bits))) ||| BitVec.ofInt IntKind.u64.bits (x : Int)).toNat) = ((v * 256 + x : Nat) : Int) := by
  have h8 : (2 : Int) ^ (min (Int.toNat 8) IntKind.u64.bits) = 256 := by simp [IntKind.bits]
  rw [h8, u64_in (n := (v : Int) * 256) (by omega) (by omega)]
  have e1 : BitVec.ofInt IntKind.u64.bits ((v : Int) * 256) = BitVec.ofNat 64 (v * 256) := by
    show BitVec.ofInt 64 _ = _
    rw [show (v : Int) * 256 = ((v * 256 : Nat) : Int) by simp, BitVec.ofInt_natCast]
  have e2 : BitVec.ofInt IntKind.u64.bits (x : Int) = BitVec.ofNat 64 x := by
    show BitVec.ofInt 64 _ = _
    rw [BitVec.ofInt_natCast]
  rw [e1, e2]
  have e3 : (BitVec.ofNat 64 (v * 256) ||| BitVec.ofNat 64 x).toNat = v * 256 + x := by
    rw [BitVec.toNat_or, BitVec.toNat_ofNat, BitVec.toNat_ofNat, Nat.mod_eq_of_lt hv, Nat.mod_eq_of_lt (by omega)]
    have := Nat.two_pow_add_eq_or_of_lt (i := 8) hx v
    rw [Nat.mul_comm v 256]
    exact this.symm
  have e4 : ((BitVec.ofNat 64 (v * 256) ||| BitVec.ofNat 64 x).toNat : Int) = ((v * 256 + x : Nat) : Int) := by rw [e3]
  refine (congrArg IntKind.u64.wrap e4).trans ?_
  rw [u64_in (by omega) (by omega)]
def takeE (b : List UInt8) (n : Int) : Nat × Int := if n < 0 ∨ 8 < n then (0, 1) else if (b.length : Int) < n then (0, 3) else (beV (b.take n.toNat), 0)
theorem take_step (b : List UInt8) (i : Nat) (hi : i < b.length) (h8 : i < 8) :
    IntKind.u64.wrap ((BitVec.ofInt IntKind.u64.bits (IntKind.u64.wrap ((beV (b.take i) : Int) * 2 ^ (min (Int.toNat 8) IntKind.u64.bits))) ||| BitVec.ofInt IntKind.u64.bits ((b.getD i default).toNat : Int)).toNat) = ((beV (b.take (i + 1)) : Nat) : Int) := by
  have hlt : beV (b.take i) < 2 ^ (8 * i) := beV_lt i _ (by simp; omega)
  have hpow : 2 ^ (8 * i) ≤ 2 ^ 56 := Nat.pow_le_pow_right (by omega) (by omega)
  have htk : b.take (i + 1) = b.take i ++ [b.getD i default] := by rw [List.take_succ_eq_append_getElem hi]; simp [List.getElem?_eq_getElem hi]
  rw [htk, beV_snoc]
  exact or_byte _ _ (by omega) (b.getD i default).toNat_lt

structure TakeX (b : List UInt8) (n : Int) where
  i : Nat
  hn : 0 ≤ n ∧ n ≤ 8 ∧ n ≤ b.length
  hi : i ≤ n.toNat
theorem num_Take {x : T} {b : List UInt8} {n : Int} (hx : bytesT x = some b) : Pure Try.prog 38 [x, .int .i64 n] (.tup [.int .u64 (takeE b n).1, .int .i64 (takeE b n).2]) := by
  refine Pure.weak (us := [sT b, .int .i64 n]) ?_ (wk2 (bytesT_wk hx) (.refl _))
  intro off
  refine A5 (N := 33) (rs := [.tmp 4, .tmp 5]) hG Try.func38 rfl rfl rfl rfl rfl ?_
  repeat' (first
    | ((show AL _ _ _ _ _ _ _ _; refine Ac Y ?_); (first
      | (show AOp _ _ ⟨_, .move _, _, _, _, _⟩ _ _ _; refine Ao hG Y Y ?_)
      | (show AOp _ _ ⟨_, .assign _, _, _, _, _⟩ _ _ _; refine A1 hG Y Y ?_)
      | (show AOp _ _ ⟨_, .call ⟨.builtin .len, _, _⟩, _, _, _, _⟩ _ _ _; first | refine Bb hG Y Y Y Y ?_ | refine Bi hG Y Y Y Y Y ?_)
      | (show AOp _ _ ⟨_, .binOp .add _ _ _ _, _, _, _, _⟩ _ _ _; first | refine Az hG Y Y Y Y Y (by omega) ?_)
      | (show AOp _ _ ⟨_, .binOp .shl _ _ _ _, _, _, _, _⟩ _ _ _; refine r_shl hG Y Y Y Y (by omega) ?_)
      | (show AOp _ _ ⟨_, .binOp _ _ _ _ _, _, _, _, _⟩ _ _ _; first | refine Au hG Y Y Y Y Y (by omega) ?_ | refine As hG Y Y Y Y Y (by omega) ?_ | (refine Aq hG Y Y Y Y Y (fun h => ?_) (fun h => ?_)) | refine r_bin' hG Y Y Y ?_)
      | (show AOp _ _ ⟨_, .load _ _, _, _, _, _⟩ _ _ _; first | refine Bo hG Y Y Y ?_ | refine Aj 0 hG Y Y Y Y ?_)
      | (show AOp _ _ ⟨_, .indexAddr _ _ _, _, _, _, _⟩ _ _ _; first | refine Bn hG Y Y Y Y Y Y Y (by omega) ?_ | refine Bp hG Y Y Y Y Y Y Y (by omega) ?_ | refine r_idx hG Y Y ?_)
      | (show AOp _ _ ⟨_, .convert _ _ _, _, _, _, _⟩ _ _ _; first | refine r_cv8 hG Y Y Y Y Y Y ?_ | refine Bs hG Y Y Y Y Y (by omega) ?_ | refine Bc hG Y Y Y Y Y ?_)
      | (show AOp _ _ ⟨_, .pick _ _ _, _, _, _, _⟩ _ _ _; refine r_pick hG Y Y Y ?_)
      | refine r_q hG Y Y Y ?_))
    | (show AL _ _ _ _ _ _ _ _; first | refine Bd Y Y Y ?_ | (refine Al ?_; first | show AW _ _ _ _ _ _ | show ∃ x', _ < _ ∧ _)) | (show AW _ _ (.seq _ _) _ _ _; refine Af ?_; intro Q1) | (show AW _ _ (.region _ _ false) _ _ _; refine Ad ?_; intro O1) | (show AW _ _ (.cond _ _ _) _ _ _; first | refine Ai Y ?_ | refine Ah Y ?_) | (show AW _ _ (.skip) _ _ _; refine Ag ?_; first | show AW _ _ _ _ _ _ | show ∃ x', _ < _ ∧ _) | (show AW _ _ (.block _ _) _ _ _; refine Aw ?_; intro Q1) | (show AW _ _ (.goto _) _ _ _; refine Bz ?_; try dsimp only [Ar, Aa, Ap, Ab]) | (show AW _ _ (.ret) _ _ _; refine Av ?_; try dsimp only [Ar, Aa, Ap, Ab]) | fail)
  refine aw_scope' 0 rfl (X := TakeX b n) (fun x => [(0, sT b), (1, .int .i64 n), (4, .int .u64 (beV (b.take x.i))), (6, .int .i64 x.i)]) (fun x => ⟨[], [], off, none⟩) (fun x => n.toNat - x.i) ?_ ?_
  · rintro ⟨i, hn, hi⟩
    dsimp only
    repeat' (first
    | ((show AL _ _ _ _ _ _ _ _; refine Ac Y ?_); (first
      | (show AOp _ _ ⟨_, .move _, _, _, _, _⟩ _ _ _; refine Ao hG Y Y ?_)
      | (show AOp _ _ ⟨_, .assign _, _, _, _, _⟩ _ _ _; refine A1 hG Y Y ?_)
      | (show AOp _ _ ⟨_, .call ⟨.builtin .len, _, _⟩, _, _, _, _⟩ _ _ _; first | refine Bb hG Y Y Y Y ?_ | refine Bi hG Y Y Y Y Y ?_)
      | (show AOp _ _ ⟨_, .binOp .add _ _ _ _, _, _, _, _⟩ _ _ _; first | refine Az hG Y Y Y Y Y (by omega) ?_)
      | (show AOp _ _ ⟨_, .binOp .shl _ _ _ _, _, _, _, _⟩ _ _ _; refine r_shl hG Y Y Y Y (by omega) ?_)
      | (show AOp _ _ ⟨_, .binOp _ _ _ _ _, _, _, _, _⟩ _ _ _; first | refine Au hG Y Y Y Y Y (by omega) ?_ | refine As hG Y Y Y Y Y (by omega) ?_ | (refine Aq hG Y Y Y Y Y (fun h => ?_) (fun h => ?_)) | refine r_bin' hG Y Y Y ?_)
      | (show AOp _ _ ⟨_, .load _ _, _, _, _, _⟩ _ _ _; first | refine Bo hG Y Y Y ?_ | refine Aj 0 hG Y Y Y Y ?_)
      | (show AOp _ _ ⟨_, .indexAddr _ _ _, _, _, _, _⟩ _ _ _; first | refine Bn hG Y Y Y Y Y Y Y (by omega) ?_ | refine Bp hG Y Y Y Y Y Y Y (by omega) ?_ | refine r_idx hG Y Y ?_)
      | (show AOp _ _ ⟨_, .convert _ _ _, _, _, _, _⟩ _ _ _; first | refine r_cv8 hG Y Y Y Y Y Y ?_ | refine Bs hG Y Y Y Y Y (by omega) ?_ | refine Bc hG Y Y Y Y Y ?_)
      | (show AOp _ _ ⟨_, .pick _ _ _, _, _, _, _⟩ _ _ _; refine r_pick hG Y Y Y ?_)
      | refine r_q hG Y Y Y ?_))
    | (show AL _ _ _ _ _ _ _ _; first | refine Bd Y Y Y ?_ | (refine Al ?_; first | show AW _ _ _ _ _ _ | show ∃ x', _ < _ ∧ _)) | (show AW _ _ (.seq _ _) _ _ _; refine Af ?_; intro Q1) | (show AW _ _ (.region _ _ false) _ _ _; refine Ad ?_; intro O1) | (show AW _ _ (.cond _ _ _) _ _ _; first | refine Ai Y ?_ | refine Ah Y ?_) | (show AW _ _ (.skip) _ _ _; refine Ag ?_; first | show AW _ _ _ _ _ _ | show ∃ x', _ < _ ∧ _) | (show AW _ _ (.block _ _) _ _ _; refine Aw ?_; intro Q1) | (show AW _ _ (.goto _) _ _ _; refine Bz ?_; try dsimp only [Ar, Aa, Ap, Ab]) | (show AW _ _ (.ret) _ _ _; refine Av ?_; try dsimp only [Ar, Aa, Ap, Ab]) | fail)
    · refine ⟨rfl, ⟨i + 1, hn, by omega⟩, by dsimp only; omega, ?_, .refl _⟩
      exact .cons rfl (.cons rfl (.consW rfl (.int (take_step b i (by omega) (by omega))) (.consW rfl (.int (by simp)) (.nil _))))
    · refine A9 (A2 rfl (A2 rfl A3)) (.eq ?_) rfl
      have : i = n.toNat := by omega
      subst this
      rw [takeE, if_neg (by omega), if_neg (by omega)]; rfl
  · intro key
    repeat' (first
    | ((show AL _ _ _ _ _ _ _ _; refine Ac Y ?_); (first
      | (show AOp _ _ ⟨_, .move _, _, _, _, _⟩ _ _ _; refine Ao hG Y Y ?_)
      | (show AOp _ _ ⟨_, .assign _, _, _, _, _⟩ _ _ _; refine A1 hG Y Y ?_)
      | (show AOp _ _ ⟨_, .call ⟨.builtin .len, _, _⟩, _, _, _, _⟩ _ _ _; first | refine Bb hG Y Y Y Y ?_ | refine Bi hG Y Y Y Y Y ?_)
      | (show AOp _ _ ⟨_, .binOp .add _ _ _ _, _, _, _, _⟩ _ _ _; first | refine Az hG Y Y Y Y Y (by omega) ?_)
      | (show AOp _ _ ⟨_, .binOp .shl _ _ _ _, _, _, _, _⟩ _ _ _; refine r_shl hG Y Y Y Y (by omega) ?_)
      | (show AOp _ _ ⟨_, .binOp _ _ _ _ _, _, _, _, _⟩ _ _ _; first | refine Au hG Y Y Y Y Y (by omega) ?_ | refine As hG Y Y Y Y Y (by omega) ?_ | (refine Aq hG Y Y Y Y Y (fun h => ?_) (fun h => ?_)) | refine r_bin' hG Y Y Y ?_)
      | (show AOp _ _ ⟨_, .load _ _, _, _, _, _⟩ _ _ _; first | refine Bo hG Y Y Y ?_ | refine Aj 0 hG Y Y Y Y ?_)
      | (show AOp _ _ ⟨_, .indexAddr _ _ _, _, _, _, _⟩ _ _ _; first | refine Bn hG Y Y Y Y Y Y Y (by omega) ?_ | refine Bp hG Y Y Y Y Y Y Y (by omega) ?_ | refine r_idx hG Y Y ?_)
      | (show AOp _ _ ⟨_, .convert _ _ _, _, _, _, _⟩ _ _ _; first | refine r_cv8 hG Y Y Y Y Y Y ?_ | refine Bs hG Y Y Y Y Y (by omega) ?_ | refine Bc hG Y Y Y Y Y ?_)
      | (show AOp _ _ ⟨_, .pick _ _ _, _, _, _, _⟩ _ _ _; refine r_pick hG Y Y Y ?_)
      | refine r_q hG Y Y Y ?_))
    | (show AL _ _ _ _ _ _ _ _; first | refine Bd Y Y Y ?_ | (refine Al ?_; first | show AW _ _ _ _ _ _ | show ∃ x', _ < _ ∧ _)) | (show AW _ _ (.seq _ _) _ _ _; refine Af ?_; intro Q1) | (show AW _ _ (.region _ _ false) _ _ _; refine Ad ?_; intro O1) | (show AW _ _ (.cond _ _ _) _ _ _; first | refine Ai Y ?_ | refine Ah Y ?_) | (show AW _ _ (.skip) _ _ _; refine Ag ?_; first | show AW _ _ _ _ _ _ | show ∃ x', _ < _ ∧ _) | (show AW _ _ (.block _ _) _ _ _; refine Aw ?_; intro Q1) | (show AW _ _ (.goto _) _ _ _; refine Bz ?_; try dsimp only [Ar, Aa, Ap, Ab]) | (show AW _ _ (.ret) _ _ _; refine Av ?_; try dsimp only [Ar, Aa, Ap, Ab]) | fail)
    · exact A9 (A2 rfl (A2 rfl A3)) (.eq (by rw [takeE, if_pos (by omega)]; rfl)) rfl
    · exact A9 (A2 rfl (A2 rfl A3)) (.eq (by rw [takeE, if_pos (by omega)]; rfl)) rfl
    · exact A9 (A2 rfl (A2 rfl A3)) (.eq (by rw [takeE, if_neg (by omega), if_pos (by omega)]; rfl)) rfl
    · refine aw_label ?_
      show AW _ _ _ _ _ _
      refine aw_forget ?_ (key ⟨0, ⟨by omega, by omega, by omega⟩, by omega⟩)
      exact .cons rfl (.cons rfl (.consW rfl (.int (by simp [beV])) (.consW rfl (.int rfl) (.nil _))))
end Go.Proofs.Ytemgmkoggnjgjaa
namespace Go.Proofs.Ytemgmkoggnjgjaa
open Go.Ts
attribute [local irreducible] Go.Ts.AW Go.Ts.AOps Go.Ts.AL Go.Ts.AOp Go.Ts.ACalls Go.Ts.DL
theorem grow_nil {n : Int} (hn : 0 ≤ n ∧ n ≤ 4294967296) : Owns Try.prog 63 [.nilsl, .int .i64 n] 1 [] := by
  intro off
  refine A5 (N := 27) (rs := [.tmp 4]) hG Try.func63 rfl rfl rfl rfl rfl ?_
  repeat' (first
    | ((show AL _ _ _ _ _ _ _ _; refine Ac Y ?_); (first
      | (show AOp _ _ ⟨_, .move _, _, _, _, _⟩ _ _ _; refine Ao hG Y Y ?_)
      | (show AOp _ _ ⟨_, .assign _, _, _, _, _⟩ _ _ _; refine A1 hG Y Y ?_)
      | (show AOp _ _ ⟨_, .call ⟨.builtin .len, _, _⟩, _, _, _, _⟩ _ _ _; first | refine Bb hG Y Y Y Y ?_ | refine Bi hG Y Y Y Y Y ?_)
      | (show AOp _ _ ⟨_, .binOp .sub _ _ _ _, _, _, _, _⟩ _ _ _; first | refine Az hG Y Y Y Y Y (by omega) ?_)
      | (show AOp _ _ ⟨_, .binOp _ _ _ _ _, _, _, _, _⟩ _ _ _; first | refine Au hG Y Y Y Y Y (by omega) ?_ | refine As hG Y Y Y Y Y (by omega) ?_ | (refine Aq hG Y Y Y Y Y (fun h => ?_) (fun h => ?_)))
      | (show AOp _ _ ⟨_, .slice _ _ _ _ _, _, _, _, _⟩ _ _ _; first | refine r_sl_hin hG Y Y Y Y Y Y Y (by omega) ?_ | refine r_sl_hi hG Y Y Y Y Y Y Y (by omega) ?_ | refine op_cut0 hG Y Y Y Y Y Y Y Y Y Y ?_ | refine r_sl hG Y Y ?_)
      | (show AOp _ _ ⟨_, .call ⟨.builtin .append, _, _⟩, _, _, _, _⟩ _ _ _; first | refine Bq (sz := 1) (xs := []) hG Y Y Y Y Y Y Y ⟨_, Y⟩ Y Y Y Y Y Y Y (by first | omega | (simp; omega)) (fun k => ?_) | refine Bv 0 hG Y Y Y Y Y Y Y ⟨_, Y⟩ Y Y Y Y Y (by first | omega | (simp only [List.length_append, List.length_cons, List.length_nil]; omega)) (fun k => ?_) | fail)
      | refine r_q hG Y Y Y ?_))
    | (show AL _ _ _ _ _ _ _ _; first | refine Bd Y Y Y ?_ | (refine Al ?_; first | show AW _ _ _ _ _ _ | show ∃ x', _ < _ ∧ _)) | (show AW _ _ (.seq _ _) _ _ _; refine Af ?_; intro Q1) | (show AW _ _ (.region _ _ false) _ _ _; refine Ad ?_; intro O1) | (show AW _ _ (.cond _ _ _) _ _ _; first | refine Ai Y ?_ | refine Ah Y ?_) | (show AW _ _ (.skip) _ _ _; refine Ag ?_; first | show AW _ _ _ _ _ _ | show ∃ x', _ < _ ∧ _) | (show AW _ _ (.ret) _ _ _; refine Av ?_; try dsimp only [Ar, Aa, Ap, Ab]) | fail)
  · refine Ac rfl (op_zeros hG rfl rfl rfl rfl rfl rfl rfl rfl rfl rfl rfl (by omega) (fun i cap hc => ?_))
    repeat' (first
    | ((show AL _ _ _ _ _ _ _ _; refine Ac Y ?_); (first
      | (show AOp _ _ ⟨_, .move _, _, _, _, _⟩ _ _ _; refine Ao hG Y Y ?_)
      | (show AOp _ _ ⟨_, .assign _, _, _, _, _⟩ _ _ _; refine A1 hG Y Y ?_)
      | (show AOp _ _ ⟨_, .call ⟨.builtin .len, _, _⟩, _, _, _, _⟩ _ _ _; first | refine Bb hG Y Y Y Y ?_ | refine Bi hG Y Y Y Y Y ?_)
      | (show AOp _ _ ⟨_, .binOp .sub _ _ _ _, _, _, _, _⟩ _ _ _; first | refine Az hG Y Y Y Y Y (by omega) ?_)
      | (show AOp _ _ ⟨_, .binOp _ _ _ _ _, _, _, _, _⟩ _ _ _; first | refine Au hG Y Y Y Y Y (by omega) ?_ | refine As hG Y Y Y Y Y (by omega) ?_ | (refine Aq hG Y Y Y Y Y (fun h => ?_) (fun h => ?_)))
      | (show AOp _ _ ⟨_, .slice _ _ _ _ _, _, _, _, _⟩ _ _ _; first | refine r_sl_hin hG Y Y Y Y Y Y Y (by omega) ?_ | refine r_sl_hi hG Y Y Y Y Y Y Y (by omega) ?_ | refine op_cut0 hG Y Y Y Y Y Y Y Y Y Y ?_ | refine r_sl hG Y Y ?_)
      | (show AOp _ _ ⟨_, .call ⟨.builtin .append, _, _⟩, _, _, _, _⟩ _ _ _; first | refine Bq (sz := 1) (xs := []) hG Y Y Y Y Y Y Y ⟨_, Y⟩ Y Y Y Y Y Y Y (by first | omega | (simp; omega)) (fun k => ?_) | refine Bv 0 hG Y Y Y Y Y Y Y ⟨_, Y⟩ Y Y Y Y Y (by first | omega | (simp only [List.length_append, List.length_cons, List.length_nil]; omega)) (fun k => ?_) | fail)
      | refine r_q hG Y Y Y ?_))
    | (show AL _ _ _ _ _ _ _ _; first | refine Bd Y Y Y ?_ | (refine Al ?_; first | show AW _ _ _ _ _ _ | show ∃ x', _ < _ ∧ _)) | (show AW _ _ (.seq _ _) _ _ _; refine Af ?_; intro Q1) | (show AW _ _ (.region _ _ false) _ _ _; refine Ad ?_; intro O1) | (show AW _ _ (.cond _ _ _) _ _ _; first | refine Ai Y ?_ | refine Ah Y ?_) | (show AW _ _ (.skip) _ _ _; refine Ag ?_; first | show AW _ _ _ _ _ _ | show ∃ x', _ < _ ∧ _) | fail)
    refine aw_room 0 4 rfl rfl rfl rfl (fun k => ?_)
    exact Av (ret_owns 0 (A2 rfl A3) rfl rfl rfl)
  · exact ret_owns0 (sz := 1) (A2 rfl A3) rfl rfl rfl rfl

def lettersOf : List T → Option (List (List UInt8))
  | [] => some []
  | t :: r => match bytesT t, lettersOf r with
    | some b, some s => some (b :: s)
    | _, _ => none
theorem bytesT_scalar {t : T} {b : List UInt8} (h : bytesT t = some b) : t.scalar = true := by
  unfold bytesT at h
  split at h
  · rfl
  · rfl
  · cases h
theorem lettersOf_wk : ∀ {xs : List T} {l : List (List UInt8)}, lettersOf xs = some l → xs.length = l.length ∧ ∀ (i : Nat) (x : T) (b : List UInt8), xs[i]? = some x → l[i]? = some b → x.scalar = true ∧ Wk x (sT b)
  | [], l, h => by simp [lettersOf] at h; subst h; exact ⟨rfl, fun i x b h => by simp at h⟩
  | t :: xs, l, h => by
    simp only [lettersOf] at h
    split at h
    · rename_i b s hb hs
      injection h with h; subst h
      obtain ⟨h1, h2⟩ := lettersOf_wk hs
      refine ⟨by simp [h1], fun i x c hx hc => ?_⟩
      cases i with
      | zero => simp at hx hc; subst hx; subst hc; exact ⟨bytesT_scalar hb, bytesT_wk hb⟩
      | succ i => exact h2 i x c (by simpa using hx) (by simpa using hc)
    · cases h
def lettersT : T → Option (List (List UInt8))
  | .nilsl => some []
  | .sl 1 _ xs => lettersOf xs
  | _ => none
def lT (l : List (List UInt8)) : T := .sl 1 .no (l.map sT)
theorem lettersT_wk {x : T} {l : List (List UInt8)} (h : lettersT x = some l) : Wk x (lT l) := by
  unfold lettersT at h
  split at h
  · injection h with h; subst h; exact Wk.nil 1
  · rename_i own xs
    obtain ⟨h1, h2⟩ := lettersOf_wk h
    refine (Wk.own 1 own xs).trans (Wk.list (by simpa using h1) fun i x y hx hy => ?_)
    rw [List.getElem?_map] at hy
    cases hl : l[i]? with
    | none => rw [hl] at hy; cases hy
    | some b =>
      rw [hl] at hy; injection hy with hy; subst hy
      obtain ⟨h3, h4⟩ := h2 i x b hx hl
      exact ⟨h3, rfl, h4⟩
  · cases h
instance : Enc lT 1 := ⟨fun x c h => by simp [lT, T.cells] at h; subst h; rfl, fun x => rfl⟩

def total (bs : List (List UInt8)) : Nat := (bs.map List.length).sum
theorem total_snoc (bs : List (List UInt8)) (b : List UInt8) : total (bs ++ [b]) = total bs + b.length := by simp [total]
theorem total_take_le (bs : List (List UInt8)) (i : Nat) : total (bs.take i) ≤ total bs := by
  have h : total bs = total (bs.take i) + total (bs.drop i) := by
    conv => lhs; rw [← List.take_append_drop i bs]
    simp only [total, List.map_append, List.sum_append]
  omega
theorem flatten_length (bs : List (List UInt8)) : bs.flatten.length = total bs := by simp [total, List.length_flatten]
theorem take_getD {α : Type} [Inhabited α] (l : List α) (i : Nat) (h : i < l.length) : l.take (i + 1) = l.take i ++ [l.getD i default] := by
  rw [List.take_succ_eq_append_getElem h]; simp [List.getElem?_eq_getElem h]

structure CatX (bs : List (List UInt8)) where
  i : Nat
  hi : i ≤ bs.length
structure CatY (bs : List (List UInt8)) where
  i : Nat
  k : Nat
  hi : i ≤ bs.length
theorem concat_b {x : T} {bs : List (List UInt8)} (hx : lettersT x = some bs) (hb : total bs ≤ 4294967200) (hn : bs.length ≤ 4294967296) :
    Owns Try.prog 44 [x] 1 (bs.flatten.map bT) := by
  refine Owns.weak (us := [lT bs]) ?_ (wk1 (lettersT_wk hx))
  intro off
  refine A5 (N := 36) (rs := [.tmp 2]) hG Try.func44 rfl rfl rfl rfl rfl ?_
  repeat' (first
    | ((show AL _ _ _ _ _ _ _ _; refine Ac Y ?_); (first
      | (show AOp _ _ ⟨_, .move _, _, _, _, _⟩ _ _ _; refine Ao hG Y Y ?_)
      | (show AOp _ _ ⟨_, .assign _, _, _, _, _⟩ _ _ _; refine A1 hG Y Y ?_)
      | (show AOp _ _ ⟨_, .call ⟨.builtin .len, _, _⟩, _, _, _, _⟩ _ _ _; first | refine Bb hG Y Y Y Y ?_ | refine Bi hG Y Y Y Y Y ?_)
      | (show AOp _ _ ⟨_, .binOp .add _ _ _ _, _, _, _, _⟩ _ _ _; first | refine Az hG Y Y Y Y Y (by omega) ?_)
      | (show AOp _ _ ⟨_, .binOp _ _ _ _ _, _, _, _, _⟩ _ _ _; first | refine Au hG Y Y Y Y Y (by omega) ?_ | refine As hG Y Y Y Y Y (by omega) ?_ | (refine Aq hG Y Y Y Y Y (fun h => ?_) (fun h => ?_)))
      | (show AOp _ _ ⟨_, .load _ _, _, _, _, _⟩ _ _ _; first | refine Bo hG Y Y Y ?_ | refine Aj 0 hG Y Y Y Y ?_)
      | (show AOp _ _ ⟨_, .indexAddr _ _ _, _, _, _, _⟩ _ _ _; first | refine Bn hG Y Y Y Y Y Y Y (by omega) ?_ | refine Bp hG Y Y Y Y Y Y Y (by omega) ?_ | refine r_idx hG Y Y ?_)
      | (show AOp _ _ ⟨_, .call ⟨.builtin .append, _, _⟩, _, _, _, _⟩ _ _ _; first | refine Bq (sz := 1) (xs := []) hG Y Y Y Y Y Y Y ⟨_, Y⟩ Y Y Y Y Y Y Y (by first | omega | (simp; omega)) (fun k => ?_) | refine Bv 0 hG Y Y Y Y Y Y Y ⟨_, Y⟩ Y Y Y Y Y (by first | omega | (simp only [List.length_append, List.length_cons, List.length_nil]; omega)) (fun k => ?_) | fail)
      | refine r_q hG Y Y Y ?_))
    | (show AL _ _ _ _ _ _ _ _; first | refine Bd Y Y Y ?_ | (refine Al ?_; first | show AW _ _ _ _ _ _ | show ∃ x', _ < _ ∧ _)) | (show AW _ _ (.seq _ _) _ _ _; refine Af ?_; intro Q1) | (show AW _ _ (.region _ _ false) _ _ _; refine Ad ?_; intro O1) | (show AW _ _ (.cond _ _ _) _ _ _; first | refine Ai Y ?_ | refine Ah Y ?_) | (show AW _ _ (.skip) _ _ _; refine Ag ?_; first | show AW _ _ _ _ _ _ | show ∃ x', _ < _ ∧ _) | (show AW _ _ (.block _ _) _ _ _; refine Aw ?_; intro Q1) | (show AW _ _ (.exit _) _ _ _; refine Bx ?_; first | show AW _ _ _ _ _ _ | show ∃ x', _ < _ ∧ _) | (show AW _ _ (.ret) _ _ _; refine Av ?_; try dsimp only [Ar, Aa, Ap, Ab]) | fail)
  refine aw_loop (X := CatX bs) (fun x => [(0, lT bs), (9, lT bs), (10, .int .i64 bs.length), (11, .int .i64 x.i), (3, .int .i64 (total (bs.take x.i)))]) (fun x => ⟨[], [], off, none⟩) (fun x => bs.length - x.i) ⟨0, Nat.zero_le _⟩ ?_ (.refl _) ?_
  · exact .cons rfl (.cons rfl (.consW rfl (.int (by simp)) (.consW rfl (.int rfl) (.consW rfl (.int (by simp [total])) (.nil _)))))
  rintro ⟨i, hi⟩
  dsimp only
  have hle := total_take_le bs i
  by_cases hib : i < bs.length
  · have htk := take_getD bs i hib
    have hle2 := total_take_le bs (i + 1)
    rw [htk, total_snoc] at hle2
    repeat' (first
    | ((show AL _ _ _ _ _ _ _ _; refine Ac Y ?_); (first
      | (show AOp _ _ ⟨_, .move _, _, _, _, _⟩ _ _ _; refine Ao hG Y Y ?_)
      | (show AOp _ _ ⟨_, .assign _, _, _, _, _⟩ _ _ _; refine A1 hG Y Y ?_)
      | (show AOp _ _ ⟨_, .call ⟨.builtin .len, _, _⟩, _, _, _, _⟩ _ _ _; first | refine Bb hG Y Y Y Y ?_ | refine Bi hG Y Y Y Y Y ?_)
      | (show AOp _ _ ⟨_, .binOp .add _ _ _ _, _, _, _, _⟩ _ _ _; first | refine Az hG Y Y Y Y Y (by omega) ?_)
      | (show AOp _ _ ⟨_, .binOp _ _ _ _ _, _, _, _, _⟩ _ _ _; first | refine Au hG Y Y Y Y Y (by omega) ?_ | refine As hG Y Y Y Y Y (by omega) ?_ | (refine Aq hG Y Y Y Y Y (fun h => ?_) (fun h => ?_)))
      | (show AOp _ _ ⟨_, .load _ _, _, _, _, _⟩ _ _ _; first | refine Bo hG Y Y Y ?_ | refine Aj 0 hG Y Y Y Y ?_)
      | (show AOp _ _ ⟨_, .indexAddr _ _ _, _, _, _, _⟩ _ _ _; first | refine Bn hG Y Y Y Y Y Y Y (by omega) ?_ | refine Bp hG Y Y Y Y Y Y Y (by omega) ?_ | refine r_idx hG Y Y ?_)
      | (show AOp _ _ ⟨_, .call ⟨.builtin .append, _, _⟩, _, _, _, _⟩ _ _ _; first | refine Bq (sz := 1) (xs := []) hG Y Y Y Y Y Y Y ⟨_, Y⟩ Y Y Y Y Y Y Y (by first | omega | (simp; omega)) (fun k => ?_) | refine Bv 0 hG Y Y Y Y Y Y Y ⟨_, Y⟩ Y Y Y Y Y (by first | omega | (simp only [List.length_append, List.length_cons, List.length_nil]; omega)) (fun k => ?_) | fail)
      | refine r_q hG Y Y Y ?_))
    | (show AL _ _ _ _ _ _ _ _; first | refine Bd Y Y Y ?_ | (refine Al ?_; first | show AW _ _ _ _ _ _ | show ∃ x', _ < _ ∧ _)) | (show AW _ _ (.seq _ _) _ _ _; refine Af ?_; intro Q1) | (show AW _ _ (.region _ _ false) _ _ _; refine Ad ?_; intro O1) | (show AW _ _ (.cond _ _ _) _ _ _; first | refine Ai Y ?_ | refine Ah Y ?_) | (show AW _ _ (.skip) _ _ _; refine Ag ?_; first | show AW _ _ _ _ _ _ | show ∃ x', _ < _ ∧ _) | (show AW _ _ (.block _ _) _ _ _; refine Aw ?_; intro Q1) | (show AW _ _ (.exit _) _ _ _; refine Bx ?_; first | show AW _ _ _ _ _ _ | show ∃ x', _ < _ ∧ _) | (show AW _ _ (.ret) _ _ _; refine Av ?_; try dsimp only [Ar, Aa, Ap, Ab]) | fail)
    refine ⟨⟨i + 1, by omega⟩, by dsimp only; omega, ?_, .refl _⟩
    refine .cons rfl (.cons rfl (.cons rfl (.consW rfl (.int (by simp)) (.consW rfl (.int ?_) (.nil _)))))
    show _ = ((total (bs.take (i + 1)) : Nat) : Int)
    rw [htk, total_snoc]; simp
  · obtain rfl : i = bs.length := by omega
    rw [List.take_length] at *
    repeat' (first
    | ((show AL _ _ _ _ _ _ _ _; refine Ac Y ?_); (first
      | (show AOp _ _ ⟨_, .move _, _, _, _, _⟩ _ _ _; refine Ao hG Y Y ?_)
      | (show AOp _ _ ⟨_, .assign _, _, _, _, _⟩ _ _ _; refine A1 hG Y Y ?_)
      | (show AOp _ _ ⟨_, .call ⟨.builtin .len, _, _⟩, _, _, _, _⟩ _ _ _; first | refine Bb hG Y Y Y Y ?_ | refine Bi hG Y Y Y Y Y ?_)
      | (show AOp _ _ ⟨_, .binOp .add _ _ _ _, _, _, _, _⟩ _ _ _; first | refine Az hG Y Y Y Y Y (by omega) ?_)
      | (show AOp _ _ ⟨_, .binOp _ _ _ _ _, _, _, _, _⟩ _ _ _; first | refine Au hG Y Y Y Y Y (by omega) ?_ | refine As hG Y Y Y Y Y (by omega) ?_ | (refine Aq hG Y Y Y Y Y (fun h => ?_) (fun h => ?_)))
      | (show AOp _ _ ⟨_, .load _ _, _, _, _, _⟩ _ _ _; first | refine Bo hG Y Y Y ?_ | refine Aj 0 hG Y Y Y Y ?_)
      | (show AOp _ _ ⟨_, .indexAddr _ _ _, _, _, _, _⟩ _ _ _; first | refine Bn hG Y Y Y Y Y Y Y (by omega) ?_ | refine Bp hG Y Y Y Y Y Y Y (by omega) ?_ | refine r_idx hG Y Y ?_)
      | (show AOp _ _ ⟨_, .call ⟨.builtin .append, _, _⟩, _, _, _, _⟩ _ _ _; first | refine Bq (sz := 1) (xs := []) hG Y Y Y Y Y Y Y ⟨_, Y⟩ Y Y Y Y Y Y Y (by first | omega | (simp; omega)) (fun k => ?_) | refine Bv 0 hG Y Y Y Y Y Y Y ⟨_, Y⟩ Y Y Y Y Y (by first | omega | (simp only [List.length_append, List.length_cons, List.length_nil]; omega)) (fun k => ?_) | fail)
      | (show AOp _ _ ⟨_, .call ⟨.value _, _, _⟩, _, _, _, _⟩ _ _ _; first | (refine r_owns Y Y Y Y Y (by apply grow_nil <;> (first | assumption | omega | exact Ae _ _ | exact Ak _ | exact Am _ _ | exact Ay _ | rfl | (simp; omega))) (fun k => ?_)) | (have := kk; clear this; refine A7 Y Y Y Y Y (Owns.pure (by apply grow_nil <;> (first | assumption | omega | exact Ae _ _ | exact Ak _ | exact Am _ _ | exact Ay _ | rfl | (simp; omega)))) ?_) | fail)
      | refine r_q hG Y Y Y ?_))
    | (show AL _ _ _ _ _ _ _ _; first | refine Bd Y Y Y ?_ | (refine Al ?_; first | show AW _ _ _ _ _ _ | show ∃ x', _ < _ ∧ _)) | (show AW _ _ (.seq _ _) _ _ _; refine Af ?_; intro Q1) | (show AW _ _ (.region _ _ false) _ _ _; refine Ad ?_; intro O1) | (show AW _ _ (.cond _ _ _) _ _ _; first | refine Ai Y ?_ | refine Ah Y ?_) | (show AW _ _ (.skip) _ _ _; refine Ag ?_; first | show AW _ _ _ _ _ _ | show ∃ x', _ < _ ∧ _) | (show AW _ _ (.block _ _) _ _ _; refine Aw ?_; intro Q1) | (show AW _ _ (.exit _) _ _ _; refine Bx ?_; first | show AW _ _ _ _ _ _ | show ∃ x', _ < _ ∧ _) | (show AW _ _ (.ret) _ _ _; refine Av ?_; try dsimp only [Ar, Aa, Ap, Ab]) | fail)
    refine aw_loop (X := CatY bs) (fun x => [(25, lT bs), (26, .int .i64 bs.length), (27, .int .i64 x.i), (6, .sl 1 (.tok x.k) ((bs.take x.i).flatten.map bT))]) (fun x => ⟨[], [x.k], off, none⟩) (fun x => bs.length - x.i) ⟨0, k, Nat.zero_le _⟩ ?_ (.refl _) ?_
    · exact .cons rfl (.consW rfl (.int (by simp)) (.consW rfl (.int rfl) (.consW rfl (.eq (by simp)) (.nil _))))
    rintro ⟨i, k, hi⟩
    dsimp only
    have hle := total_take_le bs i
    have hfl := flatten_length (bs.take i)
    by_cases hib : i < bs.length
    · have htk := take_getD bs i hib
      have hle2 := total_take_le bs (i + 1)
      rw [htk, total_snoc] at hle2
      repeat' (first
    | ((show AL _ _ _ _ _ _ _ _; refine Ac Y ?_); (first
      | (show AOp _ _ ⟨_, .move _, _, _, _, _⟩ _ _ _; refine Ao hG Y Y ?_)
      | (show AOp _ _ ⟨_, .assign _, _, _, _, _⟩ _ _ _; refine A1 hG Y Y ?_)
      | (show AOp _ _ ⟨_, .call ⟨.builtin .len, _, _⟩, _, _, _, _⟩ _ _ _; first | refine Bb hG Y Y Y Y ?_ | refine Bi hG Y Y Y Y Y ?_)
      | (show AOp _ _ ⟨_, .binOp .add _ _ _ _, _, _, _, _⟩ _ _ _; first | refine Az hG Y Y Y Y Y (by omega) ?_)
      | (show AOp _ _ ⟨_, .binOp _ _ _ _ _, _, _, _, _⟩ _ _ _; first | refine Au hG Y Y Y Y Y (by omega) ?_ | refine As hG Y Y Y Y Y (by omega) ?_ | (refine Aq hG Y Y Y Y Y (fun h => ?_) (fun h => ?_)))
      | (show AOp _ _ ⟨_, .load _ _, _, _, _, _⟩ _ _ _; first | refine Bo hG Y Y Y ?_ | refine Aj 0 hG Y Y Y Y ?_)
      | (show AOp _ _ ⟨_, .indexAddr _ _ _, _, _, _, _⟩ _ _ _; first | refine Bn hG Y Y Y Y Y Y Y (by omega) ?_ | refine Bp hG Y Y Y Y Y Y Y (by omega) ?_ | refine r_idx hG Y Y ?_)
      | (show AOp _ _ ⟨_, .call ⟨.builtin .append, _, _⟩, _, _, _, _⟩ _ _ _; first | refine Bq (sz := 1) (xs := []) hG Y Y Y Y Y Y Y ⟨_, Y⟩ Y Y Y Y Y Y Y (by first | omega | (simp; omega)) (fun k => ?_) | refine Bv 0 hG Y Y Y Y Y Y Y ⟨_, Y⟩ Y Y Y Y Y (by first | omega | (simp only [List.length_append, List.length_cons, List.length_nil]; omega)) (fun k => ?_) | fail)
      | refine r_q hG Y Y Y ?_))
    | (show AL _ _ _ _ _ _ _ _; first | refine Bd Y Y Y ?_ | (refine Al ?_; first | show AW _ _ _ _ _ _ | show ∃ x', _ < _ ∧ _)) | (show AW _ _ (.seq _ _) _ _ _; refine Af ?_; intro Q1) | (show AW _ _ (.region _ _ false) _ _ _; refine Ad ?_; intro O1) | (show AW _ _ (.cond _ _ _) _ _ _; first | refine Ai Y ?_ | refine Ah Y ?_) | (show AW _ _ (.skip) _ _ _; refine Ag ?_; first | show AW _ _ _ _ _ _ | show ∃ x', _ < _ ∧ _) | (show AW _ _ (.block _ _) _ _ _; refine Aw ?_; intro Q1) | (show AW _ _ (.exit _) _ _ _; refine Bx ?_; first | show AW _ _ _ _ _ _ | show ∃ x', _ < _ ∧ _) | (show AW _ _ (.ret) _ _ _; refine Av ?_; try dsimp only [Ar, Aa, Ap, Ab]) | fail)
      refine ⟨⟨i + 1, _, by omega⟩, by dsimp only; omega, ?_, .refl _⟩
      refine .cons rfl (.cons rfl (.consW rfl (.int (by simp)) (.consW rfl (.eq ?_) (.nil _))))
      rw [htk, List.flatten_append]; simp
    · obtain rfl : i = bs.length := by omega
      rw [List.take_length] at *
      repeat' (first
    | ((show AL _ _ _ _ _ _ _ _; refine Ac Y ?_); (first
      | (show AOp _ _ ⟨_, .move _, _, _, _, _⟩ _ _ _; refine Ao hG Y Y ?_)
      | (show AOp _ _ ⟨_, .assign _, _, _, _, _⟩ _ _ _; refine A1 hG Y Y ?_)
      | (show AOp _ _ ⟨_, .call ⟨.builtin .len, _, _⟩, _, _, _, _⟩ _ _ _; first | refine Bb hG Y Y Y Y ?_ | refine Bi hG Y Y Y Y Y ?_)
      | (show AOp _ _ ⟨_, .binOp .add _ _ _ _, _, _, _, _⟩ _ _ _; first | refine Az hG Y Y Y Y Y (by omega) ?_)
      | (show AOp _ _ ⟨_, .binOp _ _ _ _ _, _, _, _, _⟩ _ _ _; first | refine Au hG Y Y Y Y Y (by omega) ?_ | refine As hG Y Y Y Y Y (by omega) ?_ | (refine Aq hG Y Y Y Y Y (fun h => ?_) (fun h => ?_)))
      | (show AOp _ _ ⟨_, .load _ _, _, _, _, _⟩ _ _ _; first | refine Bo hG Y Y Y ?_ | refine Aj 0 hG Y Y Y Y ?_)
      | (show AOp _ _ ⟨_, .indexAddr _ _ _, _, _, _, _⟩ _ _ _; first | refine Bn hG Y Y Y Y Y Y Y (by omega) ?_ | refine Bp hG Y Y Y Y Y Y Y (by omega) ?_ | refine r_idx hG Y Y ?_)
      | (show AOp _ _ ⟨_, .call ⟨.builtin .append, _, _⟩, _, _, _, _⟩ _ _ _; first | refine Bq (sz := 1) (xs := []) hG Y Y Y Y Y Y Y ⟨_, Y⟩ Y Y Y Y Y Y Y (by first | omega | (simp; omega)) (fun k => ?_) | refine Bv 0 hG Y Y Y Y Y Y Y ⟨_, Y⟩ Y Y Y Y Y (by first | omega | (simp only [List.length_append, List.length_cons, List.length_nil]; omega)) (fun k => ?_) | fail)
      | refine r_q hG Y Y Y ?_))
    | (show AL _ _ _ _ _ _ _ _; first | refine Bd Y Y Y ?_ | (refine Al ?_; first | show AW _ _ _ _ _ _ | show ∃ x', _ < _ ∧ _)) | (show AW _ _ (.seq _ _) _ _ _; refine Af ?_; intro Q1) | (show AW _ _ (.region _ _ false) _ _ _; refine Ad ?_; intro O1) | (show AW _ _ (.cond _ _ _) _ _ _; first | refine Ai Y ?_ | refine Ah Y ?_) | (show AW _ _ (.skip) _ _ _; refine Ag ?_; first | show AW _ _ _ _ _ _ | show ∃ x', _ < _ ∧ _) | (show AW _ _ (.block _ _) _ _ _; refine Aw ?_; intro Q1) | (show AW _ _ (.exit _) _ _ _; refine Bx ?_; first | show AW _ _ _ _ _ _ | show ∃ x', _ < _ ∧ _) | (show AW _ _ (.ret) _ _ _; refine Av ?_; try dsimp only [Ar, Aa, Ap, Ab]) | fail)
      exact ret_owns 0 (A2 rfl A3) rfl rfl rfl

def putBs (b s : List UInt8) : List UInt8 := b ++ putI s.length 2 ++ s
theorem num_PutBytes {x y : T} {b s : List UInt8} (hx : bytesT x = some b) (hy : bytesT y = some s) (hl : b.length ≤ 4294880000) (hs : s.length ≤ 70000) :
    Owns Try.prog 26 [x, y] 1 ((putBs b s).map bT) := by
  refine Owns.weak (us := [sT b, sT s]) ?_ (wk2 (bytesT_wk hx) (bytesT_wk hy))
  intro off
  refine A5 (N := 13) (rs := [.tmp 4]) hG Try.func26 rfl rfl rfl rfl rfl ?_
  have hpl := putI_le s.length 2
  repeat' (first
    | ((show AL _ _ _ _ _ _ _ _; refine Ac Y ?_); (first
      | (show AOp _ _ ⟨_, .move _, _, _, _, _⟩ _ _ _; refine Ao hG Y Y ?_)
      | (show AOp _ _ ⟨_, .assign _, _, _, _, _⟩ _ _ _; refine A1 hG Y Y ?_)
      | (show AOp _ _ ⟨_, .call ⟨.builtin .len, _, _⟩, _, _, _, _⟩ _ _ _; first | refine Bb hG Y Y Y Y ?_ | refine Bi hG Y Y Y Y Y ?_)
      | (show AOp _ _ ⟨_, .convert _ _ _, _, _, _, _⟩ _ _ _; first | refine Bs hG Y Y Y Y Y (by omega) ?_ | refine Bc hG Y Y Y Y Y ?_)
      | (show AOp _ _ ⟨_, .buildSlice _ _ _, _, _, _, _⟩ _ _ _; first | refine r_mk (sz := 1) hG Y Y Y Y Y Y Y ?_)
      | (show AOp _ _ ⟨_, .call ⟨.value _, _, _⟩, _, _, _, _⟩ _ _ _; first | (refine r_owns Y Y Y Y Y (by apply num_Put <;> (first | assumption | omega | exact Ae _ _ | exact Ak _ | exact Am _ _ | exact Ay _ | rfl | (simp; omega))) (fun k => ?_)) | (have := kk; clear this; refine A7 Y Y Y Y Y (Owns.pure (by apply num_Put <;> (first | assumption | omega | exact Ae _ _ | exact Ak _ | exact Am _ _ | exact Ay _ | rfl | (simp; omega)))) ?_) | fail)
      | refine r_q hG Y Y Y ?_))
    | (show AL _ _ _ _ _ _ _ _; first | refine Bd Y Y Y ?_ | (refine Al ?_; first | show AW _ _ _ _ _ _ | show ∃ x', _ < _ ∧ _)) | (show AW _ _ (.seq _ _) _ _ _; refine Af ?_; intro Q1) | (show AW _ _ (.region _ _ false) _ _ _; refine Ad ?_; intro O1) | (show AW _ _ (.ret) _ _ _; refine Av ?_; try dsimp only [Ar, Aa, Ap, Ab]) | fail)
  refine Ac rfl (r_owns rfl rfl rfl rfl rfl (concat_b (bs := [b ++ putI s.length 2, s]) ?_ ?_ ?_) (fun k => ?_))
  · simp only [lettersT, lettersOf, Ae, Ak]
  · simp [total]; omega
  · simp
  repeat' (first
    | ((show AL _ _ _ _ _ _ _ _; refine Ac Y ?_); (first
      | (show AOp _ _ ⟨_, .move _, _, _, _, _⟩ _ _ _; refine Ao hG Y Y ?_)
      | (show AOp _ _ ⟨_, .assign _, _, _, _, _⟩ _ _ _; refine A1 hG Y Y ?_)
      | (show AOp _ _ ⟨_, .call ⟨.builtin .len, _, _⟩, _, _, _, _⟩ _ _ _; first | refine Bb hG Y Y Y Y ?_ | refine Bi hG Y Y Y Y Y ?_)
      | (show AOp _ _ ⟨_, .convert _ _ _, _, _, _, _⟩ _ _ _; first | refine Bs hG Y Y Y Y Y (by omega) ?_ | refine Bc hG Y Y Y Y Y ?_)
      | (show AOp _ _ ⟨_, .buildSlice _ _ _, _, _, _, _⟩ _ _ _; first | refine r_mk (sz := 1) hG Y Y Y Y Y Y Y ?_)
      | refine r_q hG Y Y Y ?_))
    | (show AL _ _ _ _ _ _ _ _; first | refine Bd Y Y Y ?_ | (refine Al ?_; first | show AW _ _ _ _ _ _ | show ∃ x', _ < _ ∧ _)) | (show AW _ _ (.seq _ _) _ _ _; refine Af ?_; intro Q1) | (show AW _ _ (.region _ _ false) _ _ _; refine Ad ?_; intro O1) | (show AW _ _ (.ret) _ _ _; refine Av ?_; try dsimp only [Ar, Aa, Ap, Ab]) | fail)
  exact ret_owns 0 (A2 rfl A3) rfl (by simp [putBs]) rfl
end Go.Proofs.Ytemgmkoggnjgjaa
namespace Go.Proofs.Ytemgmkoggnjgjaa
open Go.Ts
attribute [local irreducible] Go.Ts.AW Go.Ts.AOps Go.Ts.AL Go.Ts.AOp Go.Ts.ACalls Go.Ts.DL
def takeBE (b : List UInt8) : List UInt8 × Nat × Int :=
  if b.length < 2 then ([], 0, 3) else if b.length - 2 < beV (b.take 2) then ([], 0, 3) else ((b.take (2 + beV (b.take 2))).drop 2, 2 + beV (b.take 2), 0)
def tbT (r : List UInt8 × Nat × Int) : T := .tup [sT r.1, .int .i64 r.2.1, .int .i64 r.2.2]
theorem beV2 (b : List UInt8) (h : 2 ≤ b.length) : beV (b.take 2) < 65536 := by have := beV_lt 2 (b.take 2) (by simp; omega); simpa using this
theorem takeE2 (b : List UInt8) : takeE b 2 = if b.length < 2 then (0, 3) else (beV (b.take 2), 0) := by
  unfold takeE
  rw [if_neg (by omega)]
  by_cases h : b.length < 2
  · rw [if_pos (by omega), if_pos h]
  · rw [if_neg (by omega), if_neg h]; rfl

theorem num_TakeBytes {x : T} {b : List UInt8} (hx : bytesT x = some b) (hl : b.length ≤ 4294967296) : Pure Try.prog 59 [x] (tbT (takeBE b)) := by
  refine Pure.weak (us := [sT b]) ?_ (wk1 (bytesT_wk hx))
  intro off
  refine A5 (N := 29) (rs := [.tmp 2, .tmp 3, .tmp 4]) hG Try.func59 rfl rfl rfl rfl rfl ?_
  have hT := takeE2 b
  by_cases h2 : b.length < 2
  · rw [if_pos h2] at hT
    have hr : takeBE b = ([], 0, 3) := by rw [takeBE, if_pos h2]
    rw [hr]
    have hc := num_Take (n := 2) (Ak b)
    rw [hT] at hc; dsimp only at hc
    repeat' (first
    | ((show AL _ _ _ _ _ _ _ _; refine Ac Y ?_); (first
      | (show AOp _ _ ⟨_, .move _, _, _, _, _⟩ _ _ _; refine Ao hG Y Y ?_)
      | (show AOp _ _ ⟨_, .assign _, _, _, _, _⟩ _ _ _; refine A1 hG Y Y ?_)
      | (show AOp _ _ ⟨_, .call ⟨.builtin .len, _, _⟩, _, _, _, _⟩ _ _ _; first | refine Bb hG Y Y Y Y ?_ | refine Bi hG Y Y Y Y Y ?_)
      | (show AOp _ _ ⟨_, .binOp .add _ _ _ _, _, _, _, _⟩ _ _ _; first | refine Az hG Y Y Y Y Y (by omega) ?_)
      | (show AOp _ _ ⟨_, .binOp .sub _ _ _ _, _, _, _, _⟩ _ _ _; first | refine Az hG Y Y Y Y Y (by omega) ?_)
      | (show AOp _ _ ⟨_, .binOp _ _ _ _ _, _, _, _, _⟩ _ _ _; first | refine Au hG Y Y Y Y Y (by omega) ?_ | refine As hG Y Y Y Y Y (by omega) ?_ | (refine Aq hG Y Y Y Y Y (fun h => ?_) (fun h => ?_)))
      | (show AOp _ _ ⟨_, .convert _ _ _, _, _, _, _⟩ _ _ _; first | refine A4 hG Y Y Y Y Y (by omega) ?_ | refine Bc hG Y Y Y Y Y ?_)
      | (show AOp _ _ ⟨_, .slice _ _ _ _ _, _, _, _, _⟩ _ _ _; first | refine r_sl_lhn hG Y Y Y Y Y Y Y Y (by omega) ?_ | refine r_sl_lh hG Y Y Y Y Y Y Y Y (by omega) ?_ | refine op_cut0 hG Y Y Y Y Y Y Y Y Y Y ?_ | refine r_sl hG Y Y ?_)
      | (show AOp _ _ ⟨_, .call ⟨.value _, _, _⟩, _, _, _, _⟩ _ _ _; first | refine A7 Y Y Y Y Y (by apply hc <;> (first | assumption | omega | exact Ae _ _ | exact Ak _ | exact Am _ _ | exact Ay _ | rfl | (simp; omega))) ?_ | fail)
      | refine r_q hG Y Y Y ?_))
    | (show AL _ _ _ _ _ _ _ _; first | refine Bd Y Y Y ?_ | (refine Al ?_; first | show AW _ _ _ _ _ _ | show ∃ x', _ < _ ∧ _)) | (show AW _ _ (.seq _ _) _ _ _; refine Af ?_; intro Q1) | (show AW _ _ (.region _ _ false) _ _ _; refine Ad ?_; intro O1) | (show AW _ _ (.cond _ _ _) _ _ _; first | refine Ai Y ?_ | refine Ah Y ?_) | (show AW _ _ (.skip) _ _ _; refine Ag ?_; first | show AW _ _ _ _ _ _ | show ∃ x', _ < _ ∧ _) | (show AW _ _ (.ret) _ _ _; refine Av ?_; try dsimp only [Ar, Aa, Ap, Ab]) | fail)
    exact A9 (A2 rfl (A2 rfl (A2 rfl A3))) (Wk.tupL (wk3 (.nil 1) (.refl _) (.refl _))) rfl
  · rw [if_neg h2] at hT
    have hv := beV2 b (by omega)
    have hc := num_Take (n := 2) (Ak b)
    rw [hT] at hc; dsimp only at hc
    repeat' (first
    | ((show AL _ _ _ _ _ _ _ _; refine Ac Y ?_); (first
      | (show AOp _ _ ⟨_, .move _, _, _, _, _⟩ _ _ _; refine Ao hG Y Y ?_)
      | (show AOp _ _ ⟨_, .assign _, _, _, _, _⟩ _ _ _; refine A1 hG Y Y ?_)
      | (show AOp _ _ ⟨_, .call ⟨.builtin .len, _, _⟩, _, _, _, _⟩ _ _ _; first | refine Bb hG Y Y Y Y ?_ | refine Bi hG Y Y Y Y Y ?_)
      | (show AOp _ _ ⟨_, .binOp .add _ _ _ _, _, _, _, _⟩ _ _ _; first | refine Az hG Y Y Y Y Y (by omega) ?_)
      | (show AOp _ _ ⟨_, .binOp .sub _ _ _ _, _, _, _, _⟩ _ _ _; first | refine Az hG Y Y Y Y Y (by omega) ?_)
      | (show AOp _ _ ⟨_, .binOp _ _ _ _ _, _, _, _, _⟩ _ _ _; first | refine Au hG Y Y Y Y Y (by omega) ?_ | refine As hG Y Y Y Y Y (by omega) ?_ | (refine Aq hG Y Y Y Y Y (fun h => ?_) (fun h => ?_)))
      | (show AOp _ _ ⟨_, .convert _ _ _, _, _, _, _⟩ _ _ _; first | refine A4 hG Y Y Y Y Y (by omega) ?_ | refine Bc hG Y Y Y Y Y ?_)
      | (show AOp _ _ ⟨_, .slice _ _ _ _ _, _, _, _, _⟩ _ _ _; first | refine r_sl_lhn hG Y Y Y Y Y Y Y Y (by omega) ?_ | refine r_sl_lh hG Y Y Y Y Y Y Y Y (by omega) ?_ | refine op_cut0 hG Y Y Y Y Y Y Y Y Y Y ?_ | refine r_sl hG Y Y ?_)
      | (show AOp _ _ ⟨_, .call ⟨.value _, _, _⟩, _, _, _, _⟩ _ _ _; first | refine A7 Y Y Y Y Y (by apply hc <;> (first | assumption | omega | exact Ae _ _ | exact Ak _ | exact Am _ _ | exact Ay _ | rfl | (simp; omega))) ?_ | (refine r_owns Y Y Y Y Y (by apply clone_b <;> (first | assumption | omega | exact Ae _ _ | exact Ak _ | exact Am _ _ | exact Ay _ | rfl | (simp; omega))) (fun k => ?_)) | (have := kk; clear this; refine A7 Y Y Y Y Y (Owns.pure (by apply clone_b <;> (first | assumption | omega | exact Ae _ _ | exact Ak _ | exact Am _ _ | exact Ay _ | rfl | (simp; omega)))) ?_) | fail)
      | refine r_q hG Y Y Y ?_))
    | (show AL _ _ _ _ _ _ _ _; first | refine Bd Y Y Y ?_ | (refine Al ?_; first | show AW _ _ _ _ _ _ | show ∃ x', _ < _ ∧ _)) | (show AW _ _ (.seq _ _) _ _ _; refine Af ?_; intro Q1) | (show AW _ _ (.region _ _ false) _ _ _; refine Ad ?_; intro O1) | (show AW _ _ (.cond _ _ _) _ _ _; first | refine Ai Y ?_ | refine Ah Y ?_) | (show AW _ _ (.skip) _ _ _; refine Ag ?_; first | show AW _ _ _ _ _ _ | show ∃ x', _ < _ ∧ _) | (show AW _ _ (.ret) _ _ _; refine Av ?_; try dsimp only [Ar, Aa, Ap, Ab]) | fail)
    · have hr : takeBE b = ([], 0, 3) := by rw [takeBE, if_neg h2, if_pos (by omega)]
      refine A9 (A2 rfl (A2 rfl (A2 rfl A3))) ?_ rfl
      rw [hr]
      exact Wk.tupL (wk3 (.nil 1) (.refl _) (.refl _))
    · have hr : takeBE b = ((b.take (2 + beV (b.take 2))).drop 2, 2 + beV (b.take 2), 0) := by rw [takeBE, if_neg h2, if_neg (by omega)]
      refine A9 (A2 rfl (A2 rfl (A2 rfl A3))) ?_ rfl
      rw [hr]
      refine Wk.tupL (wk3 ((Wk.own _ _ _).trans (.eq ?_)) (.int (by simp)) (.refl _))
      rw [sT]; congr 3

end Go.Proofs.Ytemgmkoggnjgjaa
namespace Go.Sets
set_option linter.unusedSimpArgs false
set_option linter.unusedVariables false
abbrev C := UInt16

theorem lt_irrefl (x : C) : ¬ x < x := by simp [UInt16.lt_iff_toNat_lt]
def risesB : List C → Bool
  | x :: y :: r => decide (x < y) && risesB (y :: r)
  | _ => true
def ins (x : C) : List C → List C
  | [] => [x]
  | y :: l => if x < y then x :: y :: l else if x = y then y :: l else y :: ins x l
def mk (l : List C) : List C := l.foldl (fun acc x => ins x acc) []
end Go.Sets
namespace Go.Proofs.Ytemgmkoggnjgjaa
open Go.Ts Go.Sets
attribute [local irreducible] Go.Ts.AW Go.Ts.AOps Go.Ts.AL Go.Ts.AOp Go.Ts.ACalls Go.Ts.DL
theorem drop_tok {k : Nat} {R' : List Nat} {off : Nat → Nat → Prop} : Go.Ts.GStep ⟨[], k :: R', off, none⟩ ⟨[], [k], off, none⟩ :=
  keep_step (σ := ⟨[], k :: R', off, none⟩) (List.Sublist.refl _) (List.singleton_sublist.2 (by simp))
theorem num_Take_is {x : T} {b : List UInt8} {n e : Int} {v : Nat} (hx : bytesT x = some b) (h : takeE b n = (v, e)) : Pure Try.prog 38 [x, .int .i64 n] (.tup [.int .u64 v, .int .i64 e]) := by
  have := num_Take (n := n) hx; rw [h] at this; exact this
theorem rises_adj : ∀ l : List UInt16, risesB l = true ↔ ∀ j, j + 1 < l.length → l.getD j default < l.getD (j + 1) default
  | [] => by simp [risesB]
  | [x] => by simp [risesB]
  | x :: y :: r => by
    rw [risesB, Bool.and_eq_true, decide_eq_true_eq, rises_adj (y :: r)]
    constructor
    · rintro ⟨h1, h2⟩ j hj
      cases j with
      | zero => simpa using h1
      | succ j => have := h2 j (by simp at hj ⊢; omega); simpa using this
    · intro h
      refine ⟨by have := h 0 (by simp); simpa using this, fun j hj => ?_⟩
      have := h (j + 1) (by simp at hj ⊢; omega); simpa using this

structure RiX (a : List UInt16) where
  i : Nat
  hi : 1 ≤ i
  hp : ∀ j, j + 1 < i → j + 1 < a.length → a.getD j default < a.getD (j + 1) default
theorem cats_rises {x : T} {a : List UInt16} (hx : catsT x = some a) (hl : a.length ≤ 140737488351232) : Pure Try.prog 67 [x] (.bool (risesB a)) := by
  refine Pure.weak (us := [cT a]) ?_ (wk1 (catsT_wk hx))
  intro off
  refine A5 (N := 20) (rs := [.tmp 2]) hG Try.func67 rfl rfl rfl rfl rfl ?_
  repeat' (first
    | ((first | (show AL _ _ _ _ _ _ _ _; refine Ac Y ?_) | (show DL _ _ _ _ _ _ _; refine' Be Y Y (fun K kk => ?_) ?_; try (show Go.Ts.T; rotate_left))); (first
      | (show AOp _ _ ⟨_, .move _, _, _, _, _⟩ _ _ _; refine Ao hG Y Y ?_)
      | (show AOp _ _ ⟨_, .assign _, _, _, _, _⟩ _ _ _; refine A1 hG Y Y ?_)
      | (show AOp _ _ ⟨_, .call ⟨.builtin .len, _, _⟩, _, _, _, _⟩ _ _ _; first | refine Bb hG Y Y Y Y ?_ | refine Bi hG Y Y Y Y Y ?_)
      | (show AOp _ _ ⟨_, .binOp .add _ _ _ _, _, _, _, _⟩ _ _ _; first | refine Az hG Y Y Y Y Y (by omega) ?_)
      | (show AOp _ _ ⟨_, .binOp .sub _ _ _ _, _, _, _, _⟩ _ _ _; first | refine Az hG Y Y Y Y Y (by omega) ?_)
      | (show AOp _ _ ⟨_, .binOp _ _ _ _ _, _, _, _, _⟩ _ _ _; first | refine Au hG Y Y Y Y Y (by omega) ?_ | refine As hG Y Y Y Y Y (by omega) ?_ | ((fail_if_success have := kk); refine Aq hG Y Y Y Y Y (fun h => ?_) (fun h => ?_)))
      | (show AOp _ _ ⟨_, .load _ _, _, _, _, _⟩ _ _ _; first | refine Bo hG Y Y Y ?_ | refine Aj 0 hG Y Y Y Y ?_)
      | (show AOp _ _ ⟨_, .indexAddr _ _ _, _, _, _, _⟩ _ _ _; first | refine Bn hG Y Y Y Y Y Y Y (by omega) ?_ | refine Bp hG Y Y Y Y Y Y Y (by omega) ?_ | refine r_idx hG Y Y ?_)
      | refine r_q hG Y Y Y ?_); try exact kk)
    | (show AL _ _ _ _ _ _ _ _; first | refine Bd Y Y Y ?_ | (refine Al ?_; first | show AW _ _ _ _ _ _ | show ∃ x', _ < _ ∧ _)) | (show AW _ _ (.seq _ _) _ _ _; refine Af ?_; intro Q1) | (show AW _ _ (.region _ _ false) _ _ _; refine Ad ?_; intro O1) | (show AW _ _ (.cond _ _ _) _ _ _; first | refine Ai Y ?_ | refine Ah Y ?_) | (show AW _ _ (.skip) _ _ _; refine Ag ?_; first | show AW _ _ _ _ _ _ | show ∃ x', _ < _ ∧ _) | (show AW _ _ (.goto _) _ _ _; refine Bz ?_; try dsimp only [Ar, Aa, Ap, Ab]) | (show AW _ _ (.ret) _ _ _; refine Av ?_; try dsimp only [Ar, Aa, Ap, Ab])
    | (show DL _ _ _ _ _ _ _; refine dl_d Y Y (fun K kt kf => Aq hG Y Y Y Y Y kt kf) (fun h => ?_) (fun h => ?_))
    | (show DL _ _ _ _ _ _ _; refine dl_s Y Y Y ?_) | (show DL _ _ _ _ _ _ _; refine Bk ?_; first | show AW _ _ _ _ _ _ | show ∃ x', _ < _ ∧ _) | (show AW _ _ (.region _ _ true) _ _ _; refine A8 mix (by kernel_rfl) ?_; intro O1) | fail)
  refine aw_scope' 0 rfl (X := RiX a) (fun x => [(0, cT a), (3, .int .i64 x.i)]) (fun x => ⟨[], [], off, none⟩) (fun x => a.length - x.i) ?_ ?_
  · rintro ⟨i, hi, hp⟩
    dsimp only
    obtain ⟨i, rfl⟩ : ∃ j, i = j + 1 := ⟨i - 1, by omega⟩
    by_cases hib : i + 1 < a.length
    · have e : (((i + 1 : Nat) : Int) - 1).toNat = i := by omega
      repeat' (first
    | ((first | (show AL _ _ _ _ _ _ _ _; refine Ac Y ?_) | (show DL _ _ _ _ _ _ _; refine' Be Y Y (fun K kk => ?_) ?_; try (show Go.Ts.T; rotate_left))); (first
      | (show AOp _ _ ⟨_, .move _, _, _, _, _⟩ _ _ _; refine Ao hG Y Y ?_)
      | (show AOp _ _ ⟨_, .assign _, _, _, _, _⟩ _ _ _; refine A1 hG Y Y ?_)
      | (show AOp _ _ ⟨_, .call ⟨.builtin .len, _, _⟩, _, _, _, _⟩ _ _ _; first | refine Bb hG Y Y Y Y ?_ | refine Bi hG Y Y Y Y Y ?_)
      | (show AOp _ _ ⟨_, .binOp .add _ _ _ _, _, _, _, _⟩ _ _ _; first | refine Az hG Y Y Y Y Y (by omega) ?_)
      | (show AOp _ _ ⟨_, .binOp .sub _ _ _ _, _, _, _, _⟩ _ _ _; first | refine Az hG Y Y Y Y Y (by omega) ?_)
      | (show AOp _ _ ⟨_, .binOp _ _ _ _ _, _, _, _, _⟩ _ _ _; first | refine Au hG Y Y Y Y Y (by omega) ?_ | refine As hG Y Y Y Y Y (by omega) ?_ | ((fail_if_success have := kk); refine Aq hG Y Y Y Y Y (fun h => ?_) (fun h => ?_)))
      | (show AOp _ _ ⟨_, .load _ _, _, _, _, _⟩ _ _ _; first | refine Bo hG Y Y Y ?_ | refine Aj 0 hG Y Y Y Y ?_)
      | (show AOp _ _ ⟨_, .indexAddr _ _ _, _, _, _, _⟩ _ _ _; first | refine Bn hG Y Y Y Y Y Y Y (by omega) ?_ | refine Bp hG Y Y Y Y Y Y Y (by omega) ?_ | refine r_idx hG Y Y ?_)
      | refine r_q hG Y Y Y ?_); try exact kk)
    | (show AL _ _ _ _ _ _ _ _; first | refine Bd Y Y Y ?_ | (refine Al ?_; first | show AW _ _ _ _ _ _ | show ∃ x', _ < _ ∧ _)) | (show AW _ _ (.seq _ _) _ _ _; refine Af ?_; intro Q1) | (show AW _ _ (.region _ _ false) _ _ _; refine Ad ?_; intro O1) | (show AW _ _ (.cond _ _ _) _ _ _; first | refine Ai Y ?_ | refine Ah Y ?_) | (show AW _ _ (.skip) _ _ _; refine Ag ?_; first | show AW _ _ _ _ _ _ | show ∃ x', _ < _ ∧ _) | (show AW _ _ (.goto _) _ _ _; refine Bz ?_; try dsimp only [Ar, Aa, Ap, Ab]) | (show AW _ _ (.ret) _ _ _; refine Av ?_; try dsimp only [Ar, Aa, Ap, Ab])
    | (show DL _ _ _ _ _ _ _; refine dl_d Y Y (fun K kt kf => Aq hG Y Y Y Y Y kt kf) (fun h => ?_) (fun h => ?_))
    | (show DL _ _ _ _ _ _ _; refine dl_s Y Y Y ?_) | (show DL _ _ _ _ _ _ _; refine Bk ?_; first | show AW _ _ _ _ _ _ | show ∃ x', _ < _ ∧ _) | (show AW _ _ (.region _ _ true) _ _ _; refine A8 mix (by kernel_rfl) ?_; intro O1) | fail)
      · rw [e] at h
        refine A9 (A2 rfl A3) (.eq ?_) rfl
        have : risesB a = false := Bool.eq_false_iff.2 fun hr => by
          have := (rises_adj a).1 hr i hib
          rw [UInt16.lt_iff_toNat_lt] at this; omega
        rw [this]; rfl
      · rw [e] at h
        refine ⟨rfl, ⟨i + 2, by omega, fun j h1 h2 => ?_⟩, by dsimp only; omega, ?_, .refl _⟩
        · by_cases hj : j + 1 < i + 1
          · exact hp j hj h2
          · obtain rfl : j = i := by omega
            rw [UInt16.lt_iff_toNat_lt]; omega
        · exact .cons rfl (.consW rfl (.int (by simp; omega)) (.nil _))
    · repeat' (first
    | ((first | (show AL _ _ _ _ _ _ _ _; refine Ac Y ?_) | (show DL _ _ _ _ _ _ _; refine' Be Y Y (fun K kk => ?_) ?_; try (show Go.Ts.T; rotate_left))); (first
      | (show AOp _ _ ⟨_, .move _, _, _, _, _⟩ _ _ _; refine Ao hG Y Y ?_)
      | (show AOp _ _ ⟨_, .assign _, _, _, _, _⟩ _ _ _; refine A1 hG Y Y ?_)
      | (show AOp _ _ ⟨_, .call ⟨.builtin .len, _, _⟩, _, _, _, _⟩ _ _ _; first | refine Bb hG Y Y Y Y ?_ | refine Bi hG Y Y Y Y Y ?_)
      | (show AOp _ _ ⟨_, .binOp .add _ _ _ _, _, _, _, _⟩ _ _ _; first | refine Az hG Y Y Y Y Y (by omega) ?_)
      | (show AOp _ _ ⟨_, .binOp .sub _ _ _ _, _, _, _, _⟩ _ _ _; first | refine Az hG Y Y Y Y Y (by omega) ?_)
      | (show AOp _ _ ⟨_, .binOp _ _ _ _ _, _, _, _, _⟩ _ _ _; first | refine Au hG Y Y Y Y Y (by omega) ?_ | refine As hG Y Y Y Y Y (by omega) ?_ | ((fail_if_success have := kk); refine Aq hG Y Y Y Y Y (fun h => ?_) (fun h => ?_)))
      | (show AOp _ _ ⟨_, .load _ _, _, _, _, _⟩ _ _ _; first | refine Bo hG Y Y Y ?_ | refine Aj 0 hG Y Y Y Y ?_)
      | (show AOp _ _ ⟨_, .indexAddr _ _ _, _, _, _, _⟩ _ _ _; first | refine Bn hG Y Y Y Y Y Y Y (by omega) ?_ | refine Bp hG Y Y Y Y Y Y Y (by omega) ?_ | refine r_idx hG Y Y ?_)
      | refine r_q hG Y Y Y ?_); try exact kk)
    | (show AL _ _ _ _ _ _ _ _; first | refine Bd Y Y Y ?_ | (refine Al ?_; first | show AW _ _ _ _ _ _ | show ∃ x', _ < _ ∧ _)) | (show AW _ _ (.seq _ _) _ _ _; refine Af ?_; intro Q1) | (show AW _ _ (.region _ _ false) _ _ _; refine Ad ?_; intro O1) | (show AW _ _ (.cond _ _ _) _ _ _; first | refine Ai Y ?_ | refine Ah Y ?_) | (show AW _ _ (.skip) _ _ _; refine Ag ?_; first | show AW _ _ _ _ _ _ | show ∃ x', _ < _ ∧ _) | (show AW _ _ (.goto _) _ _ _; refine Bz ?_; try dsimp only [Ar, Aa, Ap, Ab]) | (show AW _ _ (.ret) _ _ _; refine Av ?_; try dsimp only [Ar, Aa, Ap, Ab])
    | (show DL _ _ _ _ _ _ _; refine dl_d Y Y (fun K kt kf => Aq hG Y Y Y Y Y kt kf) (fun h => ?_) (fun h => ?_))
    | (show DL _ _ _ _ _ _ _; refine dl_s Y Y Y ?_) | (show DL _ _ _ _ _ _ _; refine Bk ?_; first | show AW _ _ _ _ _ _ | show ∃ x', _ < _ ∧ _) | (show AW _ _ (.region _ _ true) _ _ _; refine A8 mix (by kernel_rfl) ?_; intro O1) | fail)
      refine A9 (A2 rfl A3) (.eq ?_) rfl
      have : risesB a = true := (rises_adj a).2 fun j hj => hp j (by omega) hj
      rw [this]; rfl
  · intro key
    repeat' (first
    | ((first | (show AL _ _ _ _ _ _ _ _; refine Ac Y ?_) | (show DL _ _ _ _ _ _ _; refine' Be Y Y (fun K kk => ?_) ?_; try (show Go.Ts.T; rotate_left))); (first
      | (show AOp _ _ ⟨_, .move _, _, _, _, _⟩ _ _ _; refine Ao hG Y Y ?_)
      | (show AOp _ _ ⟨_, .assign _, _, _, _, _⟩ _ _ _; refine A1 hG Y Y ?_)
      | (show AOp _ _ ⟨_, .call ⟨.builtin .len, _, _⟩, _, _, _, _⟩ _ _ _; first | refine Bb hG Y Y Y Y ?_ | refine Bi hG Y Y Y Y Y ?_)
      | (show AOp _ _ ⟨_, .binOp .add _ _ _ _, _, _, _, _⟩ _ _ _; first | refine Az hG Y Y Y Y Y (by omega) ?_)
      | (show AOp _ _ ⟨_, .binOp .sub _ _ _ _, _, _, _, _⟩ _ _ _; first | refine Az hG Y Y Y Y Y (by omega) ?_)
      | (show AOp _ _ ⟨_, .binOp _ _ _ _ _, _, _, _, _⟩ _ _ _; first | refine Au hG Y Y Y Y Y (by omega) ?_ | refine As hG Y Y Y Y Y (by omega) ?_ | ((fail_if_success have := kk); refine Aq hG Y Y Y Y Y (fun h => ?_) (fun h => ?_)))
      | (show AOp _ _ ⟨_, .load _ _, _, _, _, _⟩ _ _ _; first | refine Bo hG Y Y Y ?_ | refine Aj 0 hG Y Y Y Y ?_)
      | (show AOp _ _ ⟨_, .indexAddr _ _ _, _, _, _, _⟩ _ _ _; first | refine Bn hG Y Y Y Y Y Y Y (by omega) ?_ | refine Bp hG Y Y Y Y Y Y Y (by omega) ?_ | refine r_idx hG Y Y ?_)
      | refine r_q hG Y Y Y ?_); try exact kk)
    | (show AL _ _ _ _ _ _ _ _; first | refine Bd Y Y Y ?_ | (refine Al ?_; first | show AW _ _ _ _ _ _ | show ∃ x', _ < _ ∧ _)) | (show AW _ _ (.seq _ _) _ _ _; refine Af ?_; intro Q1) | (show AW _ _ (.region _ _ false) _ _ _; refine Ad ?_; intro O1) | (show AW _ _ (.cond _ _ _) _ _ _; first | refine Ai Y ?_ | refine Ah Y ?_) | (show AW _ _ (.skip) _ _ _; refine Ag ?_; first | show AW _ _ _ _ _ _ | show ∃ x', _ < _ ∧ _) | (show AW _ _ (.goto _) _ _ _; refine Bz ?_; try dsimp only [Ar, Aa, Ap, Ab]) | (show AW _ _ (.ret) _ _ _; refine Av ?_; try dsimp only [Ar, Aa, Ap, Ab])
    | (show DL _ _ _ _ _ _ _; refine dl_d Y Y (fun K kt kf => Aq hG Y Y Y Y Y kt kf) (fun h => ?_) (fun h => ?_))
    | (show DL _ _ _ _ _ _ _; refine dl_s Y Y Y ?_) | (show DL _ _ _ _ _ _ _; refine Bk ?_; first | show AW _ _ _ _ _ _ | show ∃ x', _ < _ ∧ _) | (show AW _ _ (.region _ _ true) _ _ _; refine A8 mix (by kernel_rfl) ?_; intro O1) | fail)
    refine aw_label ?_
    show AW _ _ _ _ _ _
    refine aw_forget ?_ (key ⟨1, by omega, fun j h1 h2 => by omega⟩)
    exact .cons rfl (.consW rfl (.int rfl) (.nil _))
def mayC (a : List UInt16) : Bool := decide (a.length ≤ 16) && risesB a
theorem cats_May {x : T} {a : List UInt16} (hx : catsT x = some a) (hl : a.length ≤ 140737488351232) : Pure Try.prog 47 [x] (.bool (mayC a)) := by
  refine Pure.weak (us := [cT a]) ?_ (wk1 (catsT_wk hx))
  intro off
  refine A5 (N := 10) (rs := [.tmp 2]) hG Try.func47 rfl rfl rfl rfl rfl ?_
  by_cases h : a.length ≤ 16
  · repeat' (first
    | ((show AL _ _ _ _ _ _ _ _; refine Ac Y ?_); (first
      | (show AOp _ _ ⟨_, .move _, _, _, _, _⟩ _ _ _; refine Ao hG Y Y ?_)
      | (show AOp _ _ ⟨_, .assign _, _, _, _, _⟩ _ _ _; refine A1 hG Y Y ?_)
      | (show AOp _ _ ⟨_, .call ⟨.builtin .len, _, _⟩, _, _, _, _⟩ _ _ _; first | refine Bb hG Y Y Y Y ?_ | refine Bi hG Y Y Y Y Y ?_)
      | (show AOp _ _ ⟨_, .binOp _ _ _ _ _, _, _, _, _⟩ _ _ _; first | refine Au hG Y Y Y Y Y (by omega) ?_ | refine As hG Y Y Y Y Y (by omega) ?_ | (refine Aq hG Y Y Y Y Y (fun h => ?_) (fun h => ?_)))
      | (show AOp _ _ ⟨_, .pick _ _ _, _, _, _, _⟩ _ _ _; refine r_pick hG Y Y Y ?_)
      | (show AOp _ _ ⟨_, .call ⟨.value _, _, _⟩, _, _, _, _⟩ _ _ _; first | refine A7 Y Y Y Y Y (by apply cats_rises <;> (first | assumption | omega | exact Ae _ _ | exact Ak _ | exact Am _ _ | exact Ay _ | rfl | (simp; omega))) ?_ | fail)
      | refine r_q hG Y Y Y ?_))
    | (show AL _ _ _ _ _ _ _ _; first | refine Bd Y Y Y ?_ | (refine Al ?_; first | show AW _ _ _ _ _ _ | show ∃ x', _ < _ ∧ _)) | (show AW _ _ (.seq _ _) _ _ _; refine Af ?_; intro Q1) | (show AW _ _ (.region _ _ false) _ _ _; refine Ad ?_; intro O1) | (show AW _ _ (.ret) _ _ _; refine Av ?_; try dsimp only [Ar, Aa, Ap, Ab]) | fail)
    exact A9 (A2 rfl A3) (.eq (by simp [mayC, h, tup1])) rfl
  · repeat' (first
    | ((show AL _ _ _ _ _ _ _ _; refine Ac Y ?_); (first
      | (show AOp _ _ ⟨_, .move _, _, _, _, _⟩ _ _ _; refine Ao hG Y Y ?_)
      | (show AOp _ _ ⟨_, .assign _, _, _, _, _⟩ _ _ _; refine A1 hG Y Y ?_)
      | (show AOp _ _ ⟨_, .call ⟨.builtin .len, _, _⟩, _, _, _, _⟩ _ _ _; first | refine Bb hG Y Y Y Y ?_ | refine Bi hG Y Y Y Y Y ?_)
      | (show AOp _ _ ⟨_, .binOp _ _ _ _ _, _, _, _, _⟩ _ _ _; first | refine Au hG Y Y Y Y Y (by omega) ?_ | refine As hG Y Y Y Y Y (by omega) ?_ | (refine Aq hG Y Y Y Y Y (fun h => ?_) (fun h => ?_)))
      | (show AOp _ _ ⟨_, .pick _ _ _, _, _, _, _⟩ _ _ _; refine r_pick hG Y Y Y ?_)
      | (show AOp _ _ ⟨_, .call ⟨.value _, _, _⟩, _, _, _, _⟩ _ _ _; first | refine A7 Y Y Y Y Y (by apply cats_rises <;> (first | assumption | omega | exact Ae _ _ | exact Ak _ | exact Am _ _ | exact Ay _ | rfl | (simp; omega))) ?_ | fail)
      | refine r_q hG Y Y Y ?_))
    | (show AL _ _ _ _ _ _ _ _; first | refine Bd Y Y Y ?_ | (refine Al ?_; first | show AW _ _ _ _ _ _ | show ∃ x', _ < _ ∧ _)) | (show AW _ _ (.seq _ _) _ _ _; refine Af ?_; intro Q1) | (show AW _ _ (.region _ _ false) _ _ _; refine Ad ?_; intro O1) | (show AW _ _ (.ret) _ _ _; refine Av ?_; try dsimp only [Ar, Aa, Ap, Ab]) | fail)
    refine A9 (A2 rfl A3) (.eq ?_) rfl
    rw [mayC, decide_eq_false h]; rfl

def putC (b : List UInt8) (a : List UInt16) : List UInt8 := b ++ putI a.length 1 ++ a.flatMap fun c => putI c.toNat 2
theorem flat2_length (l : List UInt16) : (l.flatMap fun c => putI c.toNat 2).length = 2 * l.length := by
  induction l with
  | nil => rfl
  | cons x l ih =>
    have : (putI x.toNat 2).length = 2 := by rw [putI, if_pos (by omega), be_length]; rfl
    rw [List.flatMap_cons, List.length_append, ih, this, List.length_cons]; omega
theorem flatMap_take {α β : Type} [Inhabited α] (l : List α) (f : α → List β) (i : Nat) (h : i < l.length) : (l.take (i + 1)).flatMap f = (l.take i).flatMap f ++ f (l.getD i default) := by
  rw [take_getD l i h, List.flatMap_append]; simp
structure CPX (a : List UInt16) where
  i : Nat
  k : Nat
  hi : i ≤ a.length
theorem cats_Put {x y : T} {b : List UInt8} {a : List UInt16} (hx : bytesT x = some b) (hy : catsT y = some a) (hl : b.length ≤ 4294000000) (hs : a.length ≤ 70000) :
    Owns Try.prog 28 [x, y] 1 ((putC b a).map bT) := by
  refine Owns.weak (us := [sT b, cT a]) ?_ (wk2 (bytesT_wk hx) (catsT_wk hy))
  intro off
  refine A5 (N := 25) (rs := [.tmp 4]) hG Try.func28 rfl rfl rfl rfl rfl ?_
  have hpl := putI_le a.length 1
  repeat' (first
    | ((show AL _ _ _ _ _ _ _ _; refine Ac Y ?_); (first
      | (show AOp _ _ ⟨_, .move _, _, _, _, _⟩ _ _ _; refine Ao hG Y Y ?_)
      | (show AOp _ _ ⟨_, .assign _, _, _, _, _⟩ _ _ _; refine A1 hG Y Y ?_)
      | (show AOp _ _ ⟨_, .call ⟨.builtin .len, _, _⟩, _, _, _, _⟩ _ _ _; first | refine Bb hG Y Y Y Y ?_ | refine Bi hG Y Y Y Y Y ?_)
      | (show AOp _ _ ⟨_, .binOp .add _ _ _ _, _, _, _, _⟩ _ _ _; first | refine Az hG Y Y Y Y Y (by omega) ?_)
      | (show AOp _ _ ⟨_, .binOp _ _ _ _ _, _, _, _, _⟩ _ _ _; first | refine Au hG Y Y Y Y Y (by omega) ?_ | refine As hG Y Y Y Y Y (by omega) ?_ | (refine Aq hG Y Y Y Y Y (fun h => ?_) (fun h => ?_)))
      | (show AOp _ _ ⟨_, .load _ _, _, _, _, _⟩ _ _ _; first | refine Bo hG Y Y Y ?_ | refine Aj 0 hG Y Y Y Y ?_)
      | (show AOp _ _ ⟨_, .indexAddr _ _ _, _, _, _, _⟩ _ _ _; first | refine Bn hG Y Y Y Y Y Y Y (by omega) ?_ | refine Bp hG Y Y Y Y Y Y Y (by omega) ?_ | refine r_idx hG Y Y ?_)
      | (show AOp _ _ ⟨_, .convert _ _ _, _, _, _, _⟩ _ _ _; first | refine r_cv16 hG Y Y Y Y Y Y ?_ | refine Bs hG Y Y Y Y Y (by omega) ?_ | refine Bc hG Y Y Y Y Y ?_)
      | (show AOp _ _ ⟨_, .call ⟨.value _, _, _⟩, _, _, _, _⟩ _ _ _; first | (refine r_owns Y Y Y Y Y (by apply num_Put <;> (first | assumption | omega | exact Ae _ _ | exact Ak _ | exact Am _ _ | exact Ay _ | rfl | (simp; omega))) (fun k => ?_)) | (have := kk; clear this; refine A7 Y Y Y Y Y (Owns.pure (by apply num_Put <;> (first | assumption | omega | exact Ae _ _ | exact Ak _ | exact Am _ _ | exact Ay _ | rfl | (simp; omega)))) ?_) | fail)
      | refine r_q hG Y Y Y ?_))
    | (show AL _ _ _ _ _ _ _ _; first | refine Bd Y Y Y ?_ | (refine Al ?_; first | show AW _ _ _ _ _ _ | show ∃ x', _ < _ ∧ _)) | (show AW _ _ (.seq _ _) _ _ _; refine Af ?_; intro Q1) | (show AW _ _ (.region _ _ false) _ _ _; refine Ad ?_; intro O1) | (show AW _ _ (.cond _ _ _) _ _ _; first | refine Ai Y ?_ | refine Ah Y ?_) | (show AW _ _ (.skip) _ _ _; refine Ag ?_; first | show AW _ _ _ _ _ _ | show ∃ x', _ < _ ∧ _) | (show AW _ _ (.block _ _) _ _ _; refine Aw ?_; intro Q1) | (show AW _ _ (.exit _) _ _ _; refine Bx ?_; first | show AW _ _ _ _ _ _ | show ∃ x', _ < _ ∧ _) | (show AW _ _ (.ret) _ _ _; refine Av ?_; try dsimp only [Ar, Aa, Ap, Ab]) | fail)
  refine aw_loop (X := CPX a) (fun x => [(13, cT a), (14, .int .i64 a.length), (15, .int .i64 x.i), (5, .sl 1 (.tok x.k) ((b ++ putI a.length 1 ++ (a.take x.i).flatMap fun c => putI c.toNat 2).map bT))]) (fun x => ⟨[], [x.k], off, none⟩) (fun x => a.length - x.i) ⟨0, _, Nat.zero_le _⟩ ?_ (.refl _) ?_
  · exact .cons rfl (.cons rfl (.consW rfl (.int rfl) (.consW rfl (.eq (by simp)) (.nil _))))
  rintro ⟨i, k, hi⟩
  dsimp only
  have hf := flat2_length (a.take i)
  have htl : (a.take i).length = i := by rw [List.length_take]; omega
  by_cases hib : i < a.length
  · have hft := flatMap_take a (fun c => putI c.toNat 2) i hib
    have hlen : (b ++ putI a.length 1 ++ (a.take i).flatMap fun c => putI c.toNat 2).length ≤ 4294967000 := by rw [List.length_append, List.length_append]; omega
    repeat' (first
    | ((show AL _ _ _ _ _ _ _ _; refine Ac Y ?_); (first
      | (show AOp _ _ ⟨_, .move _, _, _, _, _⟩ _ _ _; refine Ao hG Y Y ?_)
      | (show AOp _ _ ⟨_, .assign _, _, _, _, _⟩ _ _ _; refine A1 hG Y Y ?_)
      | (show AOp _ _ ⟨_, .call ⟨.builtin .len, _, _⟩, _, _, _, _⟩ _ _ _; first | refine Bb hG Y Y Y Y ?_ | refine Bi hG Y Y Y Y Y ?_)
      | (show AOp _ _ ⟨_, .binOp .add _ _ _ _, _, _, _, _⟩ _ _ _; first | refine Az hG Y Y Y Y Y (by omega) ?_)
      | (show AOp _ _ ⟨_, .binOp _ _ _ _ _, _, _, _, _⟩ _ _ _; first | refine Au hG Y Y Y Y Y (by omega) ?_ | refine As hG Y Y Y Y Y (by omega) ?_ | (refine Aq hG Y Y Y Y Y (fun h => ?_) (fun h => ?_)))
      | (show AOp _ _ ⟨_, .load _ _, _, _, _, _⟩ _ _ _; first | refine Bo hG Y Y Y ?_ | refine Aj 0 hG Y Y Y Y ?_)
      | (show AOp _ _ ⟨_, .indexAddr _ _ _, _, _, _, _⟩ _ _ _; first | refine Bn hG Y Y Y Y Y Y Y (by omega) ?_ | refine Bp hG Y Y Y Y Y Y Y (by omega) ?_ | refine r_idx hG Y Y ?_)
      | (show AOp _ _ ⟨_, .convert _ _ _, _, _, _, _⟩ _ _ _; first | refine r_cv16 hG Y Y Y Y Y Y ?_ | refine Bs hG Y Y Y Y Y (by omega) ?_ | refine Bc hG Y Y Y Y Y ?_)
      | (show AOp _ _ ⟨_, .call ⟨.value _, _, _⟩, _, _, _, _⟩ _ _ _; first | (refine r_owns Y Y Y Y Y (by apply num_Put <;> (first | assumption | omega | exact Ae _ _ | exact Ak _ | exact Am _ _ | exact Ay _ | rfl | (simp; omega))) (fun k => ?_)) | (have := kk; clear this; refine A7 Y Y Y Y Y (Owns.pure (by apply num_Put <;> (first | assumption | omega | exact Ae _ _ | exact Ak _ | exact Am _ _ | exact Ay _ | rfl | (simp; omega)))) ?_) | fail)
      | refine r_q hG Y Y Y ?_))
    | (show AL _ _ _ _ _ _ _ _; first | refine Bd Y Y Y ?_ | (refine Al ?_; first | show AW _ _ _ _ _ _ | show ∃ x', _ < _ ∧ _)) | (show AW _ _ (.seq _ _) _ _ _; refine Af ?_; intro Q1) | (show AW _ _ (.region _ _ false) _ _ _; refine Ad ?_; intro O1) | (show AW _ _ (.cond _ _ _) _ _ _; first | refine Ai Y ?_ | refine Ah Y ?_) | (show AW _ _ (.skip) _ _ _; refine Ag ?_; first | show AW _ _ _ _ _ _ | show ∃ x', _ < _ ∧ _) | (show AW _ _ (.block _ _) _ _ _; refine Aw ?_; intro Q1) | (show AW _ _ (.exit _) _ _ _; refine Bx ?_; first | show AW _ _ _ _ _ _ | show ∃ x', _ < _ ∧ _) | (show AW _ _ (.ret) _ _ _; refine Av ?_; try dsimp only [Ar, Aa, Ap, Ab]) | fail)
    refine ⟨⟨i + 1, _, by omega⟩, by dsimp only; omega, ?_, drop_tok⟩
    exact .cons rfl (.cons rfl (.consW rfl (.int (by simp)) (.consW rfl (.eq (by rw [hft]; simp)) (.nil _))))
  · obtain rfl : i = a.length := by omega
    repeat' (first
    | ((show AL _ _ _ _ _ _ _ _; refine Ac Y ?_); (first
      | (show AOp _ _ ⟨_, .move _, _, _, _, _⟩ _ _ _; refine Ao hG Y Y ?_)
      | (show AOp _ _ ⟨_, .assign _, _, _, _, _⟩ _ _ _; refine A1 hG Y Y ?_)
      | (show AOp _ _ ⟨_, .call ⟨.builtin .len, _, _⟩, _, _, _, _⟩ _ _ _; first | refine Bb hG Y Y Y Y ?_ | refine Bi hG Y Y Y Y Y ?_)
      | (show AOp _ _ ⟨_, .binOp .add _ _ _ _, _, _, _, _⟩ _ _ _; first | refine Az hG Y Y Y Y Y (by omega) ?_)
      | (show AOp _ _ ⟨_, .binOp _ _ _ _ _, _, _, _, _⟩ _ _ _; first | refine Au hG Y Y Y Y Y (by omega) ?_ | refine As hG Y Y Y Y Y (by omega) ?_ | (refine Aq hG Y Y Y Y Y (fun h => ?_) (fun h => ?_)))
      | (show AOp _ _ ⟨_, .load _ _, _, _, _, _⟩ _ _ _; first | refine Bo hG Y Y Y ?_ | refine Aj 0 hG Y Y Y Y ?_)
      | (show AOp _ _ ⟨_, .indexAddr _ _ _, _, _, _, _⟩ _ _ _; first | refine Bn hG Y Y Y Y Y Y Y (by omega) ?_ | refine Bp hG Y Y Y Y Y Y Y (by omega) ?_ | refine r_idx hG Y Y ?_)
      | (show AOp _ _ ⟨_, .convert _ _ _, _, _, _, _⟩ _ _ _; first | refine r_cv16 hG Y Y Y Y Y Y ?_ | refine Bs hG Y Y Y Y Y (by omega) ?_ | refine Bc hG Y Y Y Y Y ?_)
      | refine r_q hG Y Y Y ?_))
    | (show AL _ _ _ _ _ _ _ _; first | refine Bd Y Y Y ?_ | (refine Al ?_; first | show AW _ _ _ _ _ _ | show ∃ x', _ < _ ∧ _)) | (show AW _ _ (.seq _ _) _ _ _; refine Af ?_; intro Q1) | (show AW _ _ (.region _ _ false) _ _ _; refine Ad ?_; intro O1) | (show AW _ _ (.cond _ _ _) _ _ _; first | refine Ai Y ?_ | refine Ah Y ?_) | (show AW _ _ (.skip) _ _ _; refine Ag ?_; first | show AW _ _ _ _ _ _ | show ∃ x', _ < _ ∧ _) | (show AW _ _ (.block _ _) _ _ _; refine Aw ?_; intro Q1) | (show AW _ _ (.exit _) _ _ _; refine Bx ?_; first | show AW _ _ _ _ _ _ | show ∃ x', _ < _ ∧ _) | (show AW _ _ (.ret) _ _ _; refine Av ?_; try dsimp only [Ar, Aa, Ap, Ab]) | fail)
    exact ret_owns 0 (A2 rfl A3) rfl (by rw [putC, List.take_length]) rfl

def takeC (b : List UInt8) : List UInt16 × Nat × Int :=
  if b.length < 1 then ([], 0, 3)
  else if b.length < 1 + 2 * beV (b.take 1) then ([], 0, 3)
  else if mayC ((List.range (beV (b.take 1))).map fun i => UInt16.ofNat (beV ((b.drop (1 + 2 * i)).take 2))) then
    ((List.range (beV (b.take 1))).map fun i => UInt16.ofNat (beV ((b.drop (1 + 2 * i)).take 2)), 1 + 2 * beV (b.take 1), 0)
  else ([], 0, 2)
def tcT (r : List UInt16 × Nat × Int) : T := .tup [cT r.1, .int .i64 r.2.1, .int .i64 r.2.2]
theorem takeE1 (b : List UInt8) : takeE b 1 = if b.length < 1 then (0, 3) else (beV (b.take 1), 0) := by
  unfold takeE
  rw [if_neg (by omega)]
  by_cases h : b.length < 1
  · rw [if_pos (by omega), if_pos h]
  · rw [if_neg (by omega), if_neg h]; rfl
theorem beV1 (b : List UInt8) (h : 1 ≤ b.length) : beV (b.take 1) < 256 := by have := beV_lt 1 (b.take 1) (by simp; omega); simpa using this
theorem hT_of (v : Nat) (h : v < 65536) : T.int .u16 (v : Int) = hT (UInt16.ofNat v) := by
  unfold hT; congr 1
  simp [UInt16.toNat_ofNat']; omega
structure TCX (n : Nat) where
  i : Nat
  k : Nat
  hi : i ≤ n
theorem cats_Take {x : T} {b : List UInt8} (hx : bytesT x = some b) (hl : b.length ≤ 4294967296) : Pure Try.prog 60 [x] (tcT (takeC b)) := by
  refine Pure.weak (us := [sT b]) ?_ (wk1 (bytesT_wk hx))
  intro off
  refine A5 (N := 50) (rs := [.tmp 2, .tmp 3, .tmp 4]) hG Try.func60 rfl rfl rfl rfl rfl ?_
  have hT1 := takeE1 b
  by_cases h1 : b.length < 1
  · rw [if_pos h1] at hT1
    have hr : takeC b = ([], 0, 3) := by rw [takeC, if_pos h1]
    have hc := num_Take_is (Ak b) hT1
    rw [hr]
    repeat' (first
    | ((show AL _ _ _ _ _ _ _ _; refine Ac Y ?_); (first
      | (show AOp _ _ ⟨_, .move _, _, _, _, _⟩ _ _ _; refine Ao hG Y Y ?_)
      | (show AOp _ _ ⟨_, .assign _, _, _, _, _⟩ _ _ _; refine A1 hG Y Y ?_)
      | (show AOp _ _ ⟨_, .call ⟨.builtin .len, _, _⟩, _, _, _, _⟩ _ _ _; first | refine Bb hG Y Y Y Y ?_ | refine Bi hG Y Y Y Y Y ?_)
      | (show AOp _ _ ⟨_, .binOp .add _ _ _ _, _, _, _, _⟩ _ _ _; first | refine Az hG Y Y Y Y Y (by omega) ?_)
      | (show AOp _ _ ⟨_, .binOp .mul _ _ _ _, _, _, _, _⟩ _ _ _; first | refine Az hG Y Y Y Y Y (by omega) ?_)
      | (show AOp _ _ ⟨_, .binOp _ _ _ _ _, _, _, _, _⟩ _ _ _; first | refine Au hG Y Y Y Y Y (by omega) ?_ | refine As hG Y Y Y Y Y (by omega) ?_ | (refine Aq hG Y Y Y Y Y (fun h => ?_) (fun h => ?_)))
      | (show AOp _ _ ⟨_, .convert _ _ _, _, _, _, _⟩ _ _ _; first | refine A4 hG Y Y Y Y Y (by omega) ?_ | refine B5 hG Y Y Y Y Y (by omega) ?_ | refine Bc hG Y Y Y Y Y ?_)
      | (show AOp _ _ ⟨_, .slice _ _ _ _ _, _, _, _, _⟩ _ _ _; first | refine B2 hG Y Y Y Y Y Y Y (by omega) ?_ | refine r_sl_lo hG Y Y Y Y Y Y Y (by omega) ?_ | refine r_sl hG Y Y ?_)
      | (show AOp _ _ ⟨_, .unOp _ _ _, _, _, _, _⟩ _ _ _; refine r_not hG Y Y Y ?_)
      | (show AOp _ _ ⟨_, .buildSlice _ _ _, _, _, _, _⟩ _ _ _; first | refine r_mk (sz := 1) hG Y Y Y Y Y Y Y ?_)
      | (show AOp _ _ ⟨_, .call ⟨.builtin .append, _, _⟩, _, _, _, _⟩ _ _ _; first | refine Bq (sz := 1) (xs := []) hG Y Y Y Y Y Y Y ⟨_, Y⟩ Y Y Y Y Y Y Y (by first | omega | (simp; omega)) (fun k => ?_) | refine Bv 0 hG Y Y Y Y Y Y Y ⟨_, Y⟩ Y Y Y Y Y (by first | omega | (simp only [List.length_append, List.length_cons, List.length_nil]; omega)) (fun k => ?_) | fail)
      | (show AOp _ _ ⟨_, .call ⟨.value _, _, _⟩, _, _, _, _⟩ _ _ _; first | refine A7 Y Y Y Y Y (by apply hc <;> (first | assumption | omega | exact Ae _ _ | exact Ak _ | exact Am _ _ | exact Ay _ | rfl | (simp; omega))) ?_ | fail)
      | refine r_q hG Y Y Y ?_))
    | (show AL _ _ _ _ _ _ _ _; first | refine Bd Y Y Y ?_ | (refine Al ?_; first | show AW _ _ _ _ _ _ | show ∃ x', _ < _ ∧ _)) | (show AW _ _ (.seq _ _) _ _ _; refine Af ?_; intro Q1) | (show AW _ _ (.region _ _ false) _ _ _; refine Ad ?_; intro O1) | (show AW _ _ (.cond _ _ _) _ _ _; first | refine Ai Y ?_ | refine Ah Y ?_) | (show AW _ _ (.skip) _ _ _; refine Ag ?_; first | show AW _ _ _ _ _ _ | show ∃ x', _ < _ ∧ _) | (show AW _ _ (.block _ _) _ _ _; refine Aw ?_; intro Q1) | (show AW _ _ (.exit _) _ _ _; refine Bx ?_; first | show AW _ _ _ _ _ _ | show ∃ x', _ < _ ∧ _) | (show AW _ _ (.ret) _ _ _; refine Av ?_; try dsimp only [Ar, Aa, Ap, Ab]) | fail)
    exact A9 (A2 rfl (A2 rfl (A2 rfl A3))) (Wk.tupL (wk3 (.nil 1) (.refl _) (.refl _))) rfl
  rw [if_neg h1] at hT1
  have hv := beV1 b (by omega)
  have hc := num_Take_is (Ak b) hT1
  generalize hn : beV (b.take 1) = n at *
  by_cases h2 : b.length < 1 + 2 * n
  · have hr : takeC b = ([], 0, 3) := by rw [takeC, if_neg h1, hn, if_pos h2]
    rw [hr]
    repeat' (first
    | ((show AL _ _ _ _ _ _ _ _; refine Ac Y ?_); (first
      | (show AOp _ _ ⟨_, .move _, _, _, _, _⟩ _ _ _; refine Ao hG Y Y ?_)
      | (show AOp _ _ ⟨_, .assign _, _, _, _, _⟩ _ _ _; refine A1 hG Y Y ?_)
      | (show AOp _ _ ⟨_, .call ⟨.builtin .len, _, _⟩, _, _, _, _⟩ _ _ _; first | refine Bb hG Y Y Y Y ?_ | refine Bi hG Y Y Y Y Y ?_)
      | (show AOp _ _ ⟨_, .binOp .add _ _ _ _, _, _, _, _⟩ _ _ _; first | refine Az hG Y Y Y Y Y (by omega) ?_)
      | (show AOp _ _ ⟨_, .binOp .mul _ _ _ _, _, _, _, _⟩ _ _ _; first | refine Az hG Y Y Y Y Y (by omega) ?_)
      | (show AOp _ _ ⟨_, .binOp _ _ _ _ _, _, _, _, _⟩ _ _ _; first | refine Au hG Y Y Y Y Y (by omega) ?_ | refine As hG Y Y Y Y Y (by omega) ?_ | (refine Aq hG Y Y Y Y Y (fun h => ?_) (fun h => ?_)))
      | (show AOp _ _ ⟨_, .convert _ _ _, _, _, _, _⟩ _ _ _; first | refine A4 hG Y Y Y Y Y (by omega) ?_ | refine B5 hG Y Y Y Y Y (by omega) ?_ | refine Bc hG Y Y Y Y Y ?_)
      | (show AOp _ _ ⟨_, .slice _ _ _ _ _, _, _, _, _⟩ _ _ _; first | refine B2 hG Y Y Y Y Y Y Y (by omega) ?_ | refine r_sl_lo hG Y Y Y Y Y Y Y (by omega) ?_ | refine r_sl hG Y Y ?_)
      | (show AOp _ _ ⟨_, .unOp _ _ _, _, _, _, _⟩ _ _ _; refine r_not hG Y Y Y ?_)
      | (show AOp _ _ ⟨_, .buildSlice _ _ _, _, _, _, _⟩ _ _ _; first | refine r_mk (sz := 1) hG Y Y Y Y Y Y Y ?_)
      | (show AOp _ _ ⟨_, .call ⟨.builtin .append, _, _⟩, _, _, _, _⟩ _ _ _; first | refine Bq (sz := 1) (xs := []) hG Y Y Y Y Y Y Y ⟨_, Y⟩ Y Y Y Y Y Y Y (by first | omega | (simp; omega)) (fun k => ?_) | refine Bv 0 hG Y Y Y Y Y Y Y ⟨_, Y⟩ Y Y Y Y Y (by first | omega | (simp only [List.length_append, List.length_cons, List.length_nil]; omega)) (fun k => ?_) | fail)
      | (show AOp _ _ ⟨_, .call ⟨.value _, _, _⟩, _, _, _, _⟩ _ _ _; first | refine A7 Y Y Y Y Y (by apply hc <;> (first | assumption | omega | exact Ae _ _ | exact Ak _ | exact Am _ _ | exact Ay _ | rfl | (simp; omega))) ?_ | fail)
      | refine r_q hG Y Y Y ?_))
    | (show AL _ _ _ _ _ _ _ _; first | refine Bd Y Y Y ?_ | (refine Al ?_; first | show AW _ _ _ _ _ _ | show ∃ x', _ < _ ∧ _)) | (show AW _ _ (.seq _ _) _ _ _; refine Af ?_; intro Q1) | (show AW _ _ (.region _ _ false) _ _ _; refine Ad ?_; intro O1) | (show AW _ _ (.cond _ _ _) _ _ _; first | refine Ai Y ?_ | refine Ah Y ?_) | (show AW _ _ (.skip) _ _ _; refine Ag ?_; first | show AW _ _ _ _ _ _ | show ∃ x', _ < _ ∧ _) | (show AW _ _ (.block _ _) _ _ _; refine Aw ?_; intro Q1) | (show AW _ _ (.exit _) _ _ _; refine Bx ?_; first | show AW _ _ _ _ _ _ | show ∃ x', _ < _ ∧ _) | (show AW _ _ (.ret) _ _ _; refine Av ?_; try dsimp only [Ar, Aa, Ap, Ab]) | fail)
    exact A9 (A2 rfl (A2 rfl (A2 rfl A3))) (Wk.tupL (wk3 (.nil 1) (.refl _) (.refl _))) rfl
  generalize hg : (fun i => UInt16.ofNat (beV ((b.drop (1 + 2 * i)).take 2))) = g
  have hr : takeC b = if mayC ((List.range n).map g) then ((List.range n).map g, 1 + 2 * n, 0) else ([], 0, 2) := by rw [takeC, if_neg h1, hn, if_neg h2, hg]
  rw [hr]
  repeat' (first
    | ((show AL _ _ _ _ _ _ _ _; refine Ac Y ?_); (first
      | (show AOp _ _ ⟨_, .move _, _, _, _, _⟩ _ _ _; refine Ao hG Y Y ?_)
      | (show AOp _ _ ⟨_, .assign _, _, _, _, _⟩ _ _ _; refine A1 hG Y Y ?_)
      | (show AOp _ _ ⟨_, .call ⟨.builtin .len, _, _⟩, _, _, _, _⟩ _ _ _; first | refine Bb hG Y Y Y Y ?_ | refine Bi hG Y Y Y Y Y ?_)
      | (show AOp _ _ ⟨_, .binOp .add _ _ _ _, _, _, _, _⟩ _ _ _; first | refine Az hG Y Y Y Y Y (by omega) ?_)
      | (show AOp _ _ ⟨_, .binOp .mul _ _ _ _, _, _, _, _⟩ _ _ _; first | refine Az hG Y Y Y Y Y (by omega) ?_)
      | (show AOp _ _ ⟨_, .binOp _ _ _ _ _, _, _, _, _⟩ _ _ _; first | refine Au hG Y Y Y Y Y (by omega) ?_ | refine As hG Y Y Y Y Y (by omega) ?_ | (refine Aq hG Y Y Y Y Y (fun h => ?_) (fun h => ?_)))
      | (show AOp _ _ ⟨_, .convert _ _ _, _, _, _, _⟩ _ _ _; first | refine A4 hG Y Y Y Y Y (by omega) ?_ | refine B5 hG Y Y Y Y Y (by omega) ?_ | refine Bc hG Y Y Y Y Y ?_)
      | (show AOp _ _ ⟨_, .slice _ _ _ _ _, _, _, _, _⟩ _ _ _; first | refine B2 hG Y Y Y Y Y Y Y (by omega) ?_ | refine r_sl_lo hG Y Y Y Y Y Y Y (by omega) ?_ | refine r_sl hG Y Y ?_)
      | (show AOp _ _ ⟨_, .unOp _ _ _, _, _, _, _⟩ _ _ _; refine r_not hG Y Y Y ?_)
      | (show AOp _ _ ⟨_, .buildSlice _ _ _, _, _, _, _⟩ _ _ _; first | refine r_mk (sz := 1) hG Y Y Y Y Y Y Y ?_)
      | (show AOp _ _ ⟨_, .call ⟨.builtin .append, _, _⟩, _, _, _, _⟩ _ _ _; first | refine Bq (sz := 1) (xs := []) hG Y Y Y Y Y Y Y ⟨_, Y⟩ Y Y Y Y Y Y Y (by first | omega | (simp; omega)) (fun k => ?_) | refine Bv 0 hG Y Y Y Y Y Y Y ⟨_, Y⟩ Y Y Y Y Y (by first | omega | (simp only [List.length_append, List.length_cons, List.length_nil]; omega)) (fun k => ?_) | fail)
      | (show AOp _ _ ⟨_, .call ⟨.value _, _, _⟩, _, _, _, _⟩ _ _ _; first | refine A7 Y Y Y Y Y (by apply hc <;> (first | assumption | omega | exact Ae _ _ | exact Ak _ | exact Am _ _ | exact Ay _ | rfl | (simp; omega))) ?_ | fail)
      | refine r_q hG Y Y Y ?_))
    | (show AL _ _ _ _ _ _ _ _; first | refine Bd Y Y Y ?_ | (refine Al ?_; first | show AW _ _ _ _ _ _ | show ∃ x', _ < _ ∧ _)) | (show AW _ _ (.seq _ _) _ _ _; refine Af ?_; intro Q1) | (show AW _ _ (.region _ _ false) _ _ _; refine Ad ?_; intro O1) | (show AW _ _ (.cond _ _ _) _ _ _; first | refine Ai Y ?_ | refine Ah Y ?_) | (show AW _ _ (.skip) _ _ _; refine Ag ?_; first | show AW _ _ _ _ _ _ | show ∃ x', _ < _ ∧ _) | (show AW _ _ (.block _ _) _ _ _; refine Aw ?_; intro Q1) | (show AW _ _ (.exit _) _ _ _; refine Bx ?_; first | show AW _ _ _ _ _ _ | show ∃ x', _ < _ ∧ _) | (show AW _ _ (.ret) _ _ _; refine Av ?_; try dsimp only [Ar, Aa, Ap, Ab]) | fail)
  refine aw_tok0 2 1 rfl rfl rfl rfl (fun k => ?_)
  refine aw_loop (X := TCX n) (fun x => [(0, sT b), (3, .int .i64 (1 + 2 * (n : Int))), (26, .int .i64 n), (27, .int .i64 x.i), (2, .sl 1 (.tok x.k) (((List.range x.i).map g).map hT))]) (fun x => ⟨[], [x.k], off, none⟩) (fun x => n - x.i) ⟨0, k, Nat.zero_le _⟩ ?_ (.refl _) ?_
  · exact .cons rfl (.cons rfl (.cons rfl (.consW rfl (.int rfl) (.consW rfl (.eq (by simp)) (.nil _)))))
  rintro ⟨i, k, hi⟩
  dsimp only
  have hrl : (List.range i).length = i := List.length_range
  by_cases hib : i < n
  · have e : ((1 : Int) + 2 * (i : Int)).toNat = 1 + 2 * i := by omega
    have hd : (b.drop ((1 : Int) + 2 * (i : Int)).toNat).length = b.length - (1 + 2 * i) := by rw [List.length_drop, e]
    have hc2 := takeE2 (b.drop ((1 : Int) + 2 * (i : Int)).toNat)
    rw [if_neg (by omega)] at hc2
    have hc3 := num_Take_is (Ak _) hc2
    have hw := beV2 (b.drop ((1 : Int) + 2 * (i : Int)).toNat) (by omega)
    have hgi : UInt16.ofNat (beV ((b.drop ((1 : Int) + 2 * (i : Int)).toNat).take 2)) = g i := by rw [← hg, e]
    generalize beV ((b.drop ((1 : Int) + 2 * (i : Int)).toNat).take 2) = v at *
    have ht := hT_of v hw
    rw [hgi] at ht
    repeat' (first
    | ((show AL _ _ _ _ _ _ _ _; refine Ac Y ?_); (first
      | (show AOp _ _ ⟨_, .move _, _, _, _, _⟩ _ _ _; refine Ao hG Y Y ?_)
      | (show AOp _ _ ⟨_, .assign _, _, _, _, _⟩ _ _ _; refine A1 hG Y Y ?_)
      | (show AOp _ _ ⟨_, .call ⟨.builtin .len, _, _⟩, _, _, _, _⟩ _ _ _; first | refine Bb hG Y Y Y Y ?_ | refine Bi hG Y Y Y Y Y ?_)
      | (show AOp _ _ ⟨_, .binOp .add _ _ _ _, _, _, _, _⟩ _ _ _; first | refine Az hG Y Y Y Y Y (by omega) ?_)
      | (show AOp _ _ ⟨_, .binOp .mul _ _ _ _, _, _, _, _⟩ _ _ _; first | refine Az hG Y Y Y Y Y (by omega) ?_)
      | (show AOp _ _ ⟨_, .binOp _ _ _ _ _, _, _, _, _⟩ _ _ _; first | refine Au hG Y Y Y Y Y (by omega) ?_ | refine As hG Y Y Y Y Y (by omega) ?_ | (refine Aq hG Y Y Y Y Y (fun h => ?_) (fun h => ?_)))
      | (show AOp _ _ ⟨_, .convert _ _ _, _, _, _, _⟩ _ _ _; first | refine A4 hG Y Y Y Y Y (by omega) ?_ | refine B5 hG Y Y Y Y Y (by omega) ?_ | refine Bc hG Y Y Y Y Y ?_)
      | (show AOp _ _ ⟨_, .slice _ _ _ _ _, _, _, _, _⟩ _ _ _; first | refine B2 hG Y Y Y Y Y Y Y (by omega) ?_ | refine r_sl_lo hG Y Y Y Y Y Y Y (by omega) ?_ | refine r_sl hG Y Y ?_)
      | (show AOp _ _ ⟨_, .unOp _ _ _, _, _, _, _⟩ _ _ _; refine r_not hG Y Y Y ?_)
      | (show AOp _ _ ⟨_, .buildSlice _ _ _, _, _, _, _⟩ _ _ _; first | refine r_mk (sz := 1) hG Y Y Y Y Y Y Y ?_)
      | (show AOp _ _ ⟨_, .call ⟨.builtin .append, _, _⟩, _, _, _, _⟩ _ _ _; first | refine Bq (sz := 1) (xs := []) hG Y Y Y Y Y Y Y ⟨_, Y⟩ Y Y Y Y Y Y Y (by first | omega | (simp; omega)) (fun k => ?_) | refine Bv 0 hG Y Y Y Y Y Y Y ⟨_, Y⟩ Y Y Y Y Y (by first | omega | (simp only [List.length_append, List.length_cons, List.length_nil]; omega)) (fun k => ?_) | fail)
      | (show AOp _ _ ⟨_, .call ⟨.value _, _, _⟩, _, _, _, _⟩ _ _ _; first | refine A7 Y Y Y Y Y (by apply hc3 <;> (first | assumption | omega | exact Ae _ _ | exact Ak _ | exact Am _ _ | exact Ay _ | rfl | (simp; omega))) ?_ | fail)
      | refine r_q hG Y Y Y ?_))
    | (show AL _ _ _ _ _ _ _ _; first | refine Bd Y Y Y ?_ | (refine Al ?_; first | show AW _ _ _ _ _ _ | show ∃ x', _ < _ ∧ _)) | (show AW _ _ (.seq _ _) _ _ _; refine Af ?_; intro Q1) | (show AW _ _ (.region _ _ false) _ _ _; refine Ad ?_; intro O1) | (show AW _ _ (.cond _ _ _) _ _ _; first | refine Ai Y ?_ | refine Ah Y ?_) | (show AW _ _ (.skip) _ _ _; refine Ag ?_; first | show AW _ _ _ _ _ _ | show ∃ x', _ < _ ∧ _) | (show AW _ _ (.block _ _) _ _ _; refine Aw ?_; intro Q1) | (show AW _ _ (.exit _) _ _ _; refine Bx ?_; first | show AW _ _ _ _ _ _ | show ∃ x', _ < _ ∧ _) | (show AW _ _ (.ret) _ _ _; refine Av ?_; try dsimp only [Ar, Aa, Ap, Ab]) | fail)
    refine Ac rfl (Bv 0 (ys := [g i]) hG rfl rfl rfl rfl rfl rfl rfl ⟨_, rfl⟩ rfl rfl rfl rfl (congrArg (fun t => [t]) ht) (by simp; omega) (fun k' => ?_))
    repeat' (first
    | ((show AL _ _ _ _ _ _ _ _; refine Ac Y ?_); (first
      | (show AOp _ _ ⟨_, .move _, _, _, _, _⟩ _ _ _; refine Ao hG Y Y ?_)
      | (show AOp _ _ ⟨_, .assign _, _, _, _, _⟩ _ _ _; refine A1 hG Y Y ?_)
      | (show AOp _ _ ⟨_, .call ⟨.builtin .len, _, _⟩, _, _, _, _⟩ _ _ _; first | refine Bb hG Y Y Y Y ?_ | refine Bi hG Y Y Y Y Y ?_)
      | (show AOp _ _ ⟨_, .binOp .add _ _ _ _, _, _, _, _⟩ _ _ _; first | refine Az hG Y Y Y Y Y (by omega) ?_)
      | (show AOp _ _ ⟨_, .binOp .mul _ _ _ _, _, _, _, _⟩ _ _ _; first | refine Az hG Y Y Y Y Y (by omega) ?_)
      | (show AOp _ _ ⟨_, .binOp _ _ _ _ _, _, _, _, _⟩ _ _ _; first | refine Au hG Y Y Y Y Y (by omega) ?_ | refine As hG Y Y Y Y Y (by omega) ?_ | (refine Aq hG Y Y Y Y Y (fun h => ?_) (fun h => ?_)))
      | (show AOp _ _ ⟨_, .convert _ _ _, _, _, _, _⟩ _ _ _; first | refine A4 hG Y Y Y Y Y (by omega) ?_ | refine B5 hG Y Y Y Y Y (by omega) ?_ | refine Bc hG Y Y Y Y Y ?_)
      | (show AOp _ _ ⟨_, .slice _ _ _ _ _, _, _, _, _⟩ _ _ _; first | refine B2 hG Y Y Y Y Y Y Y (by omega) ?_ | refine r_sl_lo hG Y Y Y Y Y Y Y (by omega) ?_ | refine r_sl hG Y Y ?_)
      | (show AOp _ _ ⟨_, .unOp _ _ _, _, _, _, _⟩ _ _ _; refine r_not hG Y Y Y ?_)
      | (show AOp _ _ ⟨_, .buildSlice _ _ _, _, _, _, _⟩ _ _ _; first | refine r_mk (sz := 1) hG Y Y Y Y Y Y Y ?_)
      | (show AOp _ _ ⟨_, .call ⟨.builtin .append, _, _⟩, _, _, _, _⟩ _ _ _; first | refine Bq (sz := 1) (xs := []) hG Y Y Y Y Y Y Y ⟨_, Y⟩ Y Y Y Y Y Y Y (by first | omega | (simp; omega)) (fun k => ?_) | refine Bv 0 hG Y Y Y Y Y Y Y ⟨_, Y⟩ Y Y Y Y Y (by first | omega | (simp only [List.length_append, List.length_cons, List.length_nil]; omega)) (fun k => ?_) | fail)
      | refine r_q hG Y Y Y ?_))
    | (show AL _ _ _ _ _ _ _ _; first | refine Bd Y Y Y ?_ | (refine Al ?_; first | show AW _ _ _ _ _ _ | show ∃ x', _ < _ ∧ _)) | (show AW _ _ (.seq _ _) _ _ _; refine Af ?_; intro Q1) | (show AW _ _ (.region _ _ false) _ _ _; refine Ad ?_; intro O1) | (show AW _ _ (.cond _ _ _) _ _ _; first | refine Ai Y ?_ | refine Ah Y ?_) | (show AW _ _ (.skip) _ _ _; refine Ag ?_; first | show AW _ _ _ _ _ _ | show ∃ x', _ < _ ∧ _) | (show AW _ _ (.block _ _) _ _ _; refine Aw ?_; intro Q1) | (show AW _ _ (.exit _) _ _ _; refine Bx ?_; first | show AW _ _ _ _ _ _ | show ∃ x', _ < _ ∧ _) | (show AW _ _ (.ret) _ _ _; refine Av ?_; try dsimp only [Ar, Aa, Ap, Ab]) | fail)
    refine ⟨⟨i + 1, k', by omega⟩, by dsimp only; omega, ?_, .refl _⟩
    exact .cons rfl (.cons rfl (.cons rfl (.consW rfl (.int (by simp)) (.consW rfl (.eq (by rw [List.range_succ]; simp)) (.nil _)))))
  · obtain rfl : i = n := by omega
    have hm := cats_May (x := .sl 1 (.tok k) (((List.range i).map g).map hT)) (Am _ _) (by simp; omega)
    cases hma : mayC ((List.range i).map g) <;> rw [hma] at hm
    · repeat' (first
    | ((show AL _ _ _ _ _ _ _ _; refine Ac Y ?_); (first
      | (show AOp _ _ ⟨_, .move _, _, _, _, _⟩ _ _ _; refine Ao hG Y Y ?_)
      | (show AOp _ _ ⟨_, .assign _, _, _, _, _⟩ _ _ _; refine A1 hG Y Y ?_)
      | (show AOp _ _ ⟨_, .call ⟨.builtin .len, _, _⟩, _, _, _, _⟩ _ _ _; first | refine Bb hG Y Y Y Y ?_ | refine Bi hG Y Y Y Y Y ?_)
      | (show AOp _ _ ⟨_, .binOp .add _ _ _ _, _, _, _, _⟩ _ _ _; first | refine Az hG Y Y Y Y Y (by omega) ?_)
      | (show AOp _ _ ⟨_, .binOp .mul _ _ _ _, _, _, _, _⟩ _ _ _; first | refine Az hG Y Y Y Y Y (by omega) ?_)
      | (show AOp _ _ ⟨_, .binOp _ _ _ _ _, _, _, _, _⟩ _ _ _; first | refine Au hG Y Y Y Y Y (by omega) ?_ | refine As hG Y Y Y Y Y (by omega) ?_ | (refine Aq hG Y Y Y Y Y (fun h => ?_) (fun h => ?_)))
      | (show AOp _ _ ⟨_, .convert _ _ _, _, _, _, _⟩ _ _ _; first | refine A4 hG Y Y Y Y Y (by omega) ?_ | refine B5 hG Y Y Y Y Y (by omega) ?_ | refine Bc hG Y Y Y Y Y ?_)
      | (show AOp _ _ ⟨_, .slice _ _ _ _ _, _, _, _, _⟩ _ _ _; first | refine B2 hG Y Y Y Y Y Y Y (by omega) ?_ | refine r_sl_lo hG Y Y Y Y Y Y Y (by omega) ?_ | refine r_sl hG Y Y ?_)
      | (show AOp _ _ ⟨_, .unOp _ _ _, _, _, _, _⟩ _ _ _; refine r_not hG Y Y Y ?_)
      | (show AOp _ _ ⟨_, .buildSlice _ _ _, _, _, _, _⟩ _ _ _; first | refine r_mk (sz := 1) hG Y Y Y Y Y Y Y ?_)
      | (show AOp _ _ ⟨_, .call ⟨.builtin .append, _, _⟩, _, _, _, _⟩ _ _ _; first | refine Bq (sz := 1) (xs := []) hG Y Y Y Y Y Y Y ⟨_, Y⟩ Y Y Y Y Y Y Y (by first | omega | (simp; omega)) (fun k => ?_) | refine Bv 0 hG Y Y Y Y Y Y Y ⟨_, Y⟩ Y Y Y Y Y (by first | omega | (simp only [List.length_append, List.length_cons, List.length_nil]; omega)) (fun k => ?_) | fail)
      | (show AOp _ _ ⟨_, .call ⟨.value _, _, _⟩, _, _, _, _⟩ _ _ _; first | refine A7 Y Y Y Y Y (by apply hm <;> (first | assumption | omega | exact Ae _ _ | exact Ak _ | exact Am _ _ | exact Ay _ | rfl | (simp; omega))) ?_ | fail)
      | refine r_q hG Y Y Y ?_))
    | (show AL _ _ _ _ _ _ _ _; first | refine Bd Y Y Y ?_ | (refine Al ?_; first | show AW _ _ _ _ _ _ | show ∃ x', _ < _ ∧ _)) | (show AW _ _ (.seq _ _) _ _ _; refine Af ?_; intro Q1) | (show AW _ _ (.region _ _ false) _ _ _; refine Ad ?_; intro O1) | (show AW _ _ (.cond _ _ _) _ _ _; first | refine Ai Y ?_ | refine Ah Y ?_) | (show AW _ _ (.skip) _ _ _; refine Ag ?_; first | show AW _ _ _ _ _ _ | show ∃ x', _ < _ ∧ _) | (show AW _ _ (.block _ _) _ _ _; refine Aw ?_; intro Q1) | (show AW _ _ (.exit _) _ _ _; refine Bx ?_; first | show AW _ _ _ _ _ _ | show ∃ x', _ < _ ∧ _) | (show AW _ _ (.ret) _ _ _; refine Av ?_; try dsimp only [Ar, Aa, Ap, Ab]) | fail)
      refine A9 (A2 rfl (A2 rfl (A2 rfl A3))) ?_ rfl
      rw [hma]
      exact Wk.tupL (wk3 (.nil 1) (.refl _) (.refl _))
    · repeat' (first
    | ((show AL _ _ _ _ _ _ _ _; refine Ac Y ?_); (first
      | (show AOp _ _ ⟨_, .move _, _, _, _, _⟩ _ _ _; refine Ao hG Y Y ?_)
      | (show AOp _ _ ⟨_, .assign _, _, _, _, _⟩ _ _ _; refine A1 hG Y Y ?_)
      | (show AOp _ _ ⟨_, .call ⟨.builtin .len, _, _⟩, _, _, _, _⟩ _ _ _; first | refine Bb hG Y Y Y Y ?_ | refine Bi hG Y Y Y Y Y ?_)
      | (show AOp _ _ ⟨_, .binOp .add _ _ _ _, _, _, _, _⟩ _ _ _; first | refine Az hG Y Y Y Y Y (by omega) ?_)
      | (show AOp _ _ ⟨_, .binOp .mul _ _ _ _, _, _, _, _⟩ _ _ _; first | refine Az hG Y Y Y Y Y (by omega) ?_)
      | (show AOp _ _ ⟨_, .binOp _ _ _ _ _, _, _, _, _⟩ _ _ _; first | refine Au hG Y Y Y Y Y (by omega) ?_ | refine As hG Y Y Y Y Y (by omega) ?_ | (refine Aq hG Y Y Y Y Y (fun h => ?_) (fun h => ?_)))
      | (show AOp _ _ ⟨_, .convert _ _ _, _, _, _, _⟩ _ _ _; first | refine A4 hG Y Y Y Y Y (by omega) ?_ | refine B5 hG Y Y Y Y Y (by omega) ?_ | refine Bc hG Y Y Y Y Y ?_)
      | (show AOp _ _ ⟨_, .slice _ _ _ _ _, _, _, _, _⟩ _ _ _; first | refine B2 hG Y Y Y Y Y Y Y (by omega) ?_ | refine r_sl_lo hG Y Y Y Y Y Y Y (by omega) ?_ | refine r_sl hG Y Y ?_)
      | (show AOp _ _ ⟨_, .unOp _ _ _, _, _, _, _⟩ _ _ _; refine r_not hG Y Y Y ?_)
      | (show AOp _ _ ⟨_, .buildSlice _ _ _, _, _, _, _⟩ _ _ _; first | refine r_mk (sz := 1) hG Y Y Y Y Y Y Y ?_)
      | (show AOp _ _ ⟨_, .call ⟨.builtin .append, _, _⟩, _, _, _, _⟩ _ _ _; first | refine Bq (sz := 1) (xs := []) hG Y Y Y Y Y Y Y ⟨_, Y⟩ Y Y Y Y Y Y Y (by first | omega | (simp; omega)) (fun k => ?_) | refine Bv 0 hG Y Y Y Y Y Y Y ⟨_, Y⟩ Y Y Y Y Y (by first | omega | (simp only [List.length_append, List.length_cons, List.length_nil]; omega)) (fun k => ?_) | fail)
      | (show AOp _ _ ⟨_, .call ⟨.value _, _, _⟩, _, _, _, _⟩ _ _ _; first | refine A7 Y Y Y Y Y (by apply hm <;> (first | assumption | omega | exact Ae _ _ | exact Ak _ | exact Am _ _ | exact Ay _ | rfl | (simp; omega))) ?_ | fail)
      | refine r_q hG Y Y Y ?_))
    | (show AL _ _ _ _ _ _ _ _; first | refine Bd Y Y Y ?_ | (refine Al ?_; first | show AW _ _ _ _ _ _ | show ∃ x', _ < _ ∧ _)) | (show AW _ _ (.seq _ _) _ _ _; refine Af ?_; intro Q1) | (show AW _ _ (.region _ _ false) _ _ _; refine Ad ?_; intro O1) | (show AW _ _ (.cond _ _ _) _ _ _; first | refine Ai Y ?_ | refine Ah Y ?_) | (show AW _ _ (.skip) _ _ _; refine Ag ?_; first | show AW _ _ _ _ _ _ | show ∃ x', _ < _ ∧ _) | (show AW _ _ (.block _ _) _ _ _; refine Aw ?_; intro Q1) | (show AW _ _ (.exit _) _ _ _; refine Bx ?_; first | show AW _ _ _ _ _ _ | show ∃ x', _ < _ ∧ _) | (show AW _ _ (.ret) _ _ _; refine Av ?_; try dsimp only [Ar, Aa, Ap, Ab]) | fail)
      refine A9 (A2 rfl (A2 rfl (A2 rfl A3))) ?_ rfl
      rw [hma]
      exact Wk.tupL (wk3 (Wk.own _ _ _) (.int (by simp)) (.refl _))
end Go.Proofs.Ytemgmkoggnjgjaa
namespace Go.Proofs.Ytemgmkoggnjgjaa
open Go.Ts
set_option linter.unusedSimpArgs false
set_option linter.unusedVariables false
def mayL (l : List (List UInt8)) : Bool := decide (l.length ≤ 4) && l.all fun b => decide (b.length ≤ 16)
def putR (b : List UInt8) (l : List (List UInt8)) : List UInt8 := l.foldl putBs (b ++ putI l.length 1)
def takeLs (b : List UInt8) : Nat → List (List UInt8) → Nat → List (List UInt8) × Nat × Int
  | 0, acc, at' => (acc, at', 0)
  | n + 1, acc, at' => if (takeBE (b.drop at')).2.2 = 0 then takeLs b n (acc ++ [(takeBE (b.drop at')).1]) (at' + (takeBE (b.drop at')).2.1) else ([], 0, 3)
def takeR (b : List UInt8) : List (List UInt8) × Nat × Int :=
  if b.length < 1 then ([], 0, 3)
  else if (takeLs b (beV (b.take 1)) [] 1).2.2 = 0 then (if mayL (takeLs b (beV (b.take 1)) [] 1).1 then takeLs b (beV (b.take 1)) [] 1 else ([], 0, 2)) else ([], 0, 3)
theorem takeBE_e (b : List UInt8) : (takeBE b).2.2 = 0 ∧ 2 ≤ b.length ∧ (takeBE b).2.1 ≤ b.length ∧ (takeBE b).1.length ≤ 65535 ∨ takeBE b = ([], 0, 3) := by
  unfold takeBE
  split
  · exact .inr rfl
  split
  · exact .inr rfl
  · have := beV2 b (by omega)
    refine .inl ⟨rfl, by omega, by simp; omega, ?_⟩
    simp; omega
theorem be2 (n : Nat) (h : n < 65536) : putI n 2 = [UInt8.ofNat (n / 256), UInt8.ofNat n] := by
  unfold putI
  rw [if_pos (by omega)]
  simp [be]
theorem beV_2 (n : Nat) (h : n < 65536) : beV [UInt8.ofNat (n / 256), UInt8.ofNat n] = n := by
  simp [beV]; omega
theorem takeBE_put (s rest : List UInt8) (h : s.length < 65536) : takeBE (putI s.length 2 ++ s ++ rest) = (s, 2 + s.length, 0) := by
  rw [be2 _ h]
  unfold takeBE
  have e : beV (([UInt8.ofNat (s.length / 256), UInt8.ofNat s.length] ++ s ++ rest).take 2) = s.length := beV_2 _ h
  rw [e, if_neg (by simp), if_neg (by simp)]
  congr 1
  rw [show 2 + s.length = s.length + 2 by omega]
  simp
theorem takeBE_short (s rest : List UInt8) (k : Nat) (h : s.length < 65536) (hk : k < 2 + s.length) : takeBE ((putI s.length 2 ++ s ++ rest).take k) = ([], 0, 3) := by
  rw [be2 _ h]
  unfold takeBE
  by_cases h2 : k < 2
  · rw [if_pos (by simp; omega)]
  · have e : beV ((([UInt8.ofNat (s.length / 256), UInt8.ofNat s.length] ++ s ++ rest).take k).take 2) = s.length := by
      rw [List.take_take, Nat.min_eq_left (by omega)]; exact beV_2 _ h
    have hlen : (([UInt8.ofNat (s.length / 256), UInt8.ofNat s.length] ++ s ++ rest).take k).length = min k (2 + s.length + rest.length) := by simp; omega
    rw [e, if_neg (by omega), if_pos (by omega)]
end Go.Proofs.Ytemgmkoggnjgjaa
namespace Go.Proofs.Ytemgmkoggnjgjaa
open Go.Ts
set_option linter.unusedSimpArgs false
set_option linter.unusedVariables false
theorem foldl_be (v : Nat) : ∀ (n a : Nat), (be v n).foldl (fun a x => a * 256 + x.toNat) a = a * 2 ^ (8 * n) + v % 2 ^ (8 * n)
  | 0, a => by simp [be, Nat.mod_one]
  | n + 1, a => by
    rw [be, List.foldl_cons, foldl_be v n]
    have e : 2 ^ (8 * (n + 1)) = 2 ^ (8 * n) * 256 := by rw [show 8 * (n + 1) = 8 * n + 8 by omega, Nat.pow_add]
    have h : (UInt8.ofNat (v / 2 ^ (8 * n))).toNat = v / 2 ^ (8 * n) % 256 := by simp
    rw [h, e, Nat.mod_mul, Nat.add_mul, Nat.mul_assoc, Nat.mul_comm 256 (2 ^ (8 * n)), Nat.mul_comm (v / 2 ^ (8 * n) % 256)]
    omega
theorem beV_be (v n : Nat) (h : v < 2 ^ (8 * n)) : beV (be v n) = v := by
  unfold beV; rw [foldl_be, Nat.zero_mul, Nat.zero_add, Nat.mod_eq_of_lt h]
theorem be_add (w : Nat) : ∀ (m n v : Nat), m ≤ n → be (v + w * 2 ^ (8 * n)) m = be v m
  | 0, n, v, h => rfl
  | m + 1, n, v, h => by
    rw [be, be, be_add w m n v (by omega)]
    congr 1
    have e : 2 ^ (8 * n) = 2 ^ (8 * m) * (256 * 2 ^ (8 * (n - m - 1))) := by
      rw [show (256 : Nat) = 2 ^ 8 from rfl, ← Nat.pow_add, ← Nat.pow_add]; congr 1; omega
    have h2 : (v + w * 2 ^ (8 * n)) / 2 ^ (8 * m) = v / 2 ^ (8 * m) + 256 * (w * 2 ^ (8 * (n - m - 1))) := by
      rw [e, show w * (2 ^ (8 * m) * (256 * 2 ^ (8 * (n - m - 1)))) = 2 ^ (8 * m) * (256 * (w * 2 ^ (8 * (n - m - 1)))) by ac_rfl, Nat.add_mul_div_left _ _ (Nat.two_pow_pos _)]
    rw [h2]
    apply UInt8.toNat_inj.1
    simp [UInt8.toNat_ofNat']
theorem beV_cons (x : UInt8) (l : List UInt8) : beV (x :: l) = x.toNat * 2 ^ (8 * l.length) + beV l := by
  have : ∀ (l : List UInt8) (a : Nat), l.foldl (fun a x => a * 256 + x.toNat) a = a * 2 ^ (8 * l.length) + beV l := by
    intro l
    induction l with
    | nil => intro a; simp [beV]
    | cons y l ih =>
      intro a
      have h1 := ih (a * 256 + y.toNat)
      have h2 := ih (0 * 256 + y.toNat)
      rw [List.foldl_cons, h1]
      have e3 : beV (y :: l) = List.foldl (fun a x => a * 256 + x.toNat) (0 * 256 + y.toNat) l := rfl
      rw [e3, h2, List.length_cons, show 8 * (l.length + 1) = 8 + 8 * l.length by omega, Nat.pow_add]
      rw [Nat.add_mul, Nat.zero_mul, Nat.zero_add, Nat.mul_assoc, show (2 : Nat) ^ 8 = 256 from rfl]
      omega
  have h := this l (0 * 256 + x.toNat)
  have e3 : beV (x :: l) = List.foldl (fun a x => a * 256 + x.toNat) (0 * 256 + x.toNat) l := rfl
  rw [e3, h]; simp
theorem be_beV : ∀ (l : List UInt8), be (beV l) l.length = l
  | [] => rfl
  | x :: l => by
    rw [List.length_cons, be, beV_cons, Nat.add_comm, be_add _ _ _ _ (Nat.le_refl _), be_beV l]
    congr 1
    have hlt := beV_lt l.length l rfl
    rw [Nat.add_mul_div_right _ _ (Nat.two_pow_pos _), Nat.div_eq_of_lt hlt, Nat.zero_add]
    simp
theorem putI_be (v n : Nat) (h : n ≤ 8) : putI (v : Int) (n : Int) = be v n := by
  unfold putI; rw [if_pos (by omega)]; simp
theorem takeBE_back {b s : List UInt8} {n : Nat} (h : takeBE b = (s, n, 0)) : b = putI s.length 2 ++ s ++ b.drop n ∧ n = 2 + s.length ∧ s.length < 65536 ∧ n ≤ b.length := by
  unfold takeBE at h
  by_cases h1 : b.length < 2
  · rw [if_pos h1] at h; simp at h
  rw [if_neg h1] at h
  by_cases h2 : b.length - 2 < beV (b.take 2)
  · rw [if_pos h2] at h; simp at h
  rw [if_neg h2] at h
  simp only [Prod.mk.injEq] at h
  obtain ⟨rfl, rfl, _⟩ := h
  have hv := beV2 b (by omega)
  have hl : ((b.take (2 + beV (b.take 2))).drop 2).length = beV (b.take 2) := by simp; omega
  refine ⟨?_, by rw [hl], by omega, by omega⟩
  rw [hl, show (2 : Int) = ((2 : Nat) : Int) from rfl, putI_be _ _ (by omega)]
  have e : be (beV (b.take 2)) 2 = b.take 2 := by
    have := be_beV (b.take 2)
    rwa [show (b.take 2).length = 2 by simp; omega] at this
  rw [e]
  generalize beV (b.take 2) = k at *
  have e2 : b.take 2 ++ (b.take (2 + k)).drop 2 = b.take (2 + k) := by
    rw [List.drop_take, Nat.add_sub_cancel_left, List.take_add]
  rw [e2, List.take_append_drop]
end Go.Proofs.Ytemgmkoggnjgjaa
namespace Go.Proofs.Ytemgmkoggnjgjaa
open Go.Ts
set_option linter.unusedSimpArgs false
set_option linter.unusedVariables false
attribute [local irreducible] Go.Ts.AW Go.Ts.AOps Go.Ts.AL Go.Ts.AOp Go.Ts.ACalls Go.Ts.DL Go.Ts.DQ Go.Ts.EL
def iT (x : Nat) : T := .int .i64 x
instance : Enc iT 1 := ⟨fun x c h => by simp [iT, T.cells] at h; subst h; rfl, fun x => rfl⟩
def wT (x : Nat) : T := .int .u64 x
instance : Enc wT 1 := ⟨fun x c h => by simp [wT, T.cells] at h; subst h; rfl, fun x => rfl⟩
section
variable {P : Program} {G : Nat → Option TI} {σ : St} {N : Nat} {a : Env}
end
end Go.Proofs.Ytemgmkoggnjgjaa
namespace Go.Proofs.Ytemgmkoggnjgjaa
open Go.Ts Go.Sets
attribute [local irreducible] Go.Ts.AW Go.Ts.AOps Go.Ts.AL Go.Ts.AOp Go.Ts.ACalls Go.Ts.DL Go.Ts.DQ Go.Ts.EL
theorem putI1 (n : Nat) : putI n 1 = [UInt8.ofNat n] := by rw [putI, if_pos (by omega)]; simp [be]
structure SSX (a b : List UInt16) where
  i : Nat
  hi : i ≤ a.length
  hp : ∀ j, j < i → a.getD j default = b.getD j default
theorem ref_SameSet {x y : T} {a b : List UInt16} (hx : catsT x = some a) (hy : catsT y = some b) (hl : a.length ≤ 4294967296) (hm : b.length ≤ 4294967296) : Pure Try.prog 22 [x, y] (.bool (decide (a = b))) := by
  refine Pure.weak (us := [cT a, cT b]) ?_ (wk2 (catsT_wk hx) (catsT_wk hy))
  intro off
  refine A5 (N := 26) (rs := [.tmp 4]) hG Try.func22 rfl rfl rfl rfl rfl ?_
  by_cases hlen : a.length = b.length
  · repeat' (first
    | ((first | (show AL _ _ _ _ _ _ _ _; refine Ac Y ?_) | (show DL _ _ _ _ _ _ _; refine' Be Y Y (fun K kk => ?_) ?_; try (show Go.Ts.T; rotate_left))); (first
      | (show AOp _ _ ⟨_, .move _, _, _, _, _⟩ _ _ _; refine Ao hG Y Y ?_)
      | (show AOp _ _ ⟨_, .assign _, _, _, _, _⟩ _ _ _; refine A1 hG Y Y ?_)
      | (show AOp _ _ ⟨_, .call ⟨.builtin .len, _, _⟩, _, _, _, _⟩ _ _ _; first | refine Bb hG Y Y Y Y ?_ | refine Bi hG Y Y Y Y Y ?_)
      | (show AOp _ _ ⟨_, .binOp .add _ _ _ _, _, _, _, _⟩ _ _ _; first | refine Az hG Y Y Y Y Y (by omega) ?_)
      | (show AOp _ _ ⟨_, .binOp _ _ _ _ _, _, _, _, _⟩ _ _ _; first | refine Au hG Y Y Y Y Y (by omega) ?_ | refine As hG Y Y Y Y Y (by omega) ?_ | ((fail_if_success have := kk); refine Aq hG Y Y Y Y Y (fun h => ?_) (fun h => ?_)))
      | (show AOp _ _ ⟨_, .load _ _, _, _, _, _⟩ _ _ _; first | refine Bo hG Y Y Y ?_ | refine Aj 0 hG Y Y Y Y ?_)
      | (show AOp _ _ ⟨_, .indexAddr _ _ _, _, _, _, _⟩ _ _ _; first | refine Bn hG Y Y Y Y Y Y Y (by omega) ?_ | refine Bp hG Y Y Y Y Y Y Y (by omega) ?_ | refine r_idx hG Y Y ?_)
      | refine r_q hG Y Y Y ?_); try exact kk)
    | (show AL _ _ _ _ _ _ _ _; first | refine Bd Y Y Y ?_ | (refine Al ?_; first | show AW _ _ _ _ _ _ | show ∃ x', _ < _ ∧ _)) | (show AW _ _ (.seq _ _) _ _ _; refine Af ?_; intro Q1) | (show AW _ _ (.region _ _ false) _ _ _; refine Ad ?_; intro O1) | (show AW _ _ (.cond _ _ _) _ _ _; first | refine Ai Y ?_ | refine Ah Y ?_) | (show AW _ _ (.skip) _ _ _; refine Ag ?_; first | show AW _ _ _ _ _ _ | show ∃ x', _ < _ ∧ _) | (show AW _ _ (.block _ _) _ _ _; refine Aw ?_; intro Q1) | (show AW _ _ (.exit _) _ _ _; refine Bx ?_; first | show AW _ _ _ _ _ _ | show ∃ x', _ < _ ∧ _) | (show AW _ _ (.ret) _ _ _; refine Av ?_; try dsimp only [Ar, Aa, Ap, Ab])
    | (show DL _ _ _ _ _ _ _; refine dl_d Y Y (fun K kt kf => Aq hG Y Y Y Y Y kt kf) (fun h => ?_) (fun h => ?_))
    | (show DL _ _ _ _ _ _ _; refine dl_s Y Y Y ?_) | (show DL _ _ _ _ _ _ _; refine Bk ?_; first | show AW _ _ _ _ _ _ | show ∃ x', _ < _ ∧ _) | (show AW _ _ (.region _ _ true) _ _ _; refine A8 mix (by kernel_rfl) ?_; intro O1) | fail)
    refine aw_loop (X := SSX a b) (fun x => [(0, cT a), (1, cT b), (5, .int .i64 x.i)]) (fun x => ⟨[], [], off, none⟩) (fun x => a.length - x.i) ⟨0, Nat.zero_le _, fun j hj => by omega⟩ ?_ (.refl _) ?_
    · exact .cons rfl (.cons rfl (.consW rfl (.int rfl) (.nil _)))
    rintro ⟨i, hi, hp⟩
    dsimp only
    by_cases hib : i < a.length
    · by_cases heq : (((a.getD i default).toNat : Int) = ((b.getD i default).toNat : Int))
      · repeat' (first
    | ((first | (show AL _ _ _ _ _ _ _ _; refine Ac Y ?_) | (show DL _ _ _ _ _ _ _; refine' Be Y Y (fun K kk => ?_) ?_; try (show Go.Ts.T; rotate_left))); (first
      | (show AOp _ _ ⟨_, .move _, _, _, _, _⟩ _ _ _; refine Ao hG Y Y ?_)
      | (show AOp _ _ ⟨_, .assign _, _, _, _, _⟩ _ _ _; refine A1 hG Y Y ?_)
      | (show AOp _ _ ⟨_, .call ⟨.builtin .len, _, _⟩, _, _, _, _⟩ _ _ _; first | refine Bb hG Y Y Y Y ?_ | refine Bi hG Y Y Y Y Y ?_)
      | (show AOp _ _ ⟨_, .binOp .add _ _ _ _, _, _, _, _⟩ _ _ _; first | refine Az hG Y Y Y Y Y (by omega) ?_)
      | (show AOp _ _ ⟨_, .binOp _ _ _ _ _, _, _, _, _⟩ _ _ _; first | refine Au hG Y Y Y Y Y (by omega) ?_ | refine As hG Y Y Y Y Y (by omega) ?_ | ((fail_if_success have := kk); refine Aq hG Y Y Y Y Y (fun h => ?_) (fun h => ?_)))
      | (show AOp _ _ ⟨_, .load _ _, _, _, _, _⟩ _ _ _; first | refine Bo hG Y Y Y ?_ | refine Aj 0 hG Y Y Y Y ?_)
      | (show AOp _ _ ⟨_, .indexAddr _ _ _, _, _, _, _⟩ _ _ _; first | refine Bn hG Y Y Y Y Y Y Y (by omega) ?_ | refine Bp hG Y Y Y Y Y Y Y (by omega) ?_ | refine r_idx hG Y Y ?_)
      | refine r_q hG Y Y Y ?_); try exact kk)
    | (show AL _ _ _ _ _ _ _ _; first | refine Bd Y Y Y ?_ | (refine Al ?_; first | show AW _ _ _ _ _ _ | show ∃ x', _ < _ ∧ _)) | (show AW _ _ (.seq _ _) _ _ _; refine Af ?_; intro Q1) | (show AW _ _ (.region _ _ false) _ _ _; refine Ad ?_; intro O1) | (show AW _ _ (.cond _ _ _) _ _ _; first | refine Ai Y ?_ | refine Ah Y ?_) | (show AW _ _ (.skip) _ _ _; refine Ag ?_; first | show AW _ _ _ _ _ _ | show ∃ x', _ < _ ∧ _) | (show AW _ _ (.block _ _) _ _ _; refine Aw ?_; intro Q1) | (show AW _ _ (.exit _) _ _ _; refine Bx ?_; first | show AW _ _ _ _ _ _ | show ∃ x', _ < _ ∧ _) | (show AW _ _ (.ret) _ _ _; refine Av ?_; try dsimp only [Ar, Aa, Ap, Ab])
    | (show DL _ _ _ _ _ _ _; refine dl_d Y Y (fun K kt kf => Aq hG Y Y Y Y Y kt kf) (fun h => ?_) (fun h => ?_))
    | (show DL _ _ _ _ _ _ _; refine dl_s Y Y Y ?_) | (show DL _ _ _ _ _ _ _; refine Bk ?_; first | show AW _ _ _ _ _ _ | show ∃ x', _ < _ ∧ _) | (show AW _ _ (.region _ _ true) _ _ _; refine A8 mix (by kernel_rfl) ?_; intro O1) | fail)
        refine ⟨⟨i + 1, by omega, fun j hj => ?_⟩, by dsimp only; omega, ?_, .refl _⟩
        · by_cases hj2 : j < i
          · exact hp j hj2
          · obtain rfl : j = i := by omega
            rw [← UInt16.toNat_inj]; omega
        · exact .cons rfl (.cons rfl (.consW rfl (.int (by simp)) (.nil _)))
      · repeat' (first
    | ((first | (show AL _ _ _ _ _ _ _ _; refine Ac Y ?_) | (show DL _ _ _ _ _ _ _; refine' Be Y Y (fun K kk => ?_) ?_; try (show Go.Ts.T; rotate_left))); (first
      | (show AOp _ _ ⟨_, .move _, _, _, _, _⟩ _ _ _; refine Ao hG Y Y ?_)
      | (show AOp _ _ ⟨_, .assign _, _, _, _, _⟩ _ _ _; refine A1 hG Y Y ?_)
      | (show AOp _ _ ⟨_, .call ⟨.builtin .len, _, _⟩, _, _, _, _⟩ _ _ _; first | refine Bb hG Y Y Y Y ?_ | refine Bi hG Y Y Y Y Y ?_)
      | (show AOp _ _ ⟨_, .binOp .add _ _ _ _, _, _, _, _⟩ _ _ _; first | refine Az hG Y Y Y Y Y (by omega) ?_)
      | (show AOp _ _ ⟨_, .binOp _ _ _ _ _, _, _, _, _⟩ _ _ _; first | refine Au hG Y Y Y Y Y (by omega) ?_ | refine As hG Y Y Y Y Y (by omega) ?_ | ((fail_if_success have := kk); refine Aq hG Y Y Y Y Y (fun h => ?_) (fun h => ?_)))
      | (show AOp _ _ ⟨_, .load _ _, _, _, _, _⟩ _ _ _; first | refine Bo hG Y Y Y ?_ | refine Aj 0 hG Y Y Y Y ?_)
      | (show AOp _ _ ⟨_, .indexAddr _ _ _, _, _, _, _⟩ _ _ _; first | refine Bn hG Y Y Y Y Y Y Y (by omega) ?_ | refine Bp hG Y Y Y Y Y Y Y (by omega) ?_ | refine r_idx hG Y Y ?_)
      | refine r_q hG Y Y Y ?_); try exact kk)
    | (show AL _ _ _ _ _ _ _ _; first | refine Bd Y Y Y ?_ | (refine Al ?_; first | show AW _ _ _ _ _ _ | show ∃ x', _ < _ ∧ _)) | (show AW _ _ (.seq _ _) _ _ _; refine Af ?_; intro Q1) | (show AW _ _ (.region _ _ false) _ _ _; refine Ad ?_; intro O1) | (show AW _ _ (.cond _ _ _) _ _ _; first | refine Ai Y ?_ | refine Ah Y ?_) | (show AW _ _ (.skip) _ _ _; refine Ag ?_; first | show AW _ _ _ _ _ _ | show ∃ x', _ < _ ∧ _) | (show AW _ _ (.block _ _) _ _ _; refine Aw ?_; intro Q1) | (show AW _ _ (.exit _) _ _ _; refine Bx ?_; first | show AW _ _ _ _ _ _ | show ∃ x', _ < _ ∧ _) | (show AW _ _ (.ret) _ _ _; refine Av ?_; try dsimp only [Ar, Aa, Ap, Ab])
    | (show DL _ _ _ _ _ _ _; refine dl_d Y Y (fun K kt kf => Aq hG Y Y Y Y Y kt kf) (fun h => ?_) (fun h => ?_))
    | (show DL _ _ _ _ _ _ _; refine dl_s Y Y Y ?_) | (show DL _ _ _ _ _ _ _; refine Bk ?_; first | show AW _ _ _ _ _ _ | show ∃ x', _ < _ ∧ _) | (show AW _ _ (.region _ _ true) _ _ _; refine A8 mix (by kernel_rfl) ?_; intro O1) | fail)
        refine A9 (A2 rfl A3) (.eq ?_) rfl
        rw [decide_eq_false (fun h => heq (by rw [h]))]; rfl
    · repeat' (first
    | ((first | (show AL _ _ _ _ _ _ _ _; refine Ac Y ?_) | (show DL _ _ _ _ _ _ _; refine' Be Y Y (fun K kk => ?_) ?_; try (show Go.Ts.T; rotate_left))); (first
      | (show AOp _ _ ⟨_, .move _, _, _, _, _⟩ _ _ _; refine Ao hG Y Y ?_)
      | (show AOp _ _ ⟨_, .assign _, _, _, _, _⟩ _ _ _; refine A1 hG Y Y ?_)
      | (show AOp _ _ ⟨_, .call ⟨.builtin .len, _, _⟩, _, _, _, _⟩ _ _ _; first | refine Bb hG Y Y Y Y ?_ | refine Bi hG Y Y Y Y Y ?_)
      | (show AOp _ _ ⟨_, .binOp .add _ _ _ _, _, _, _, _⟩ _ _ _; first | refine Az hG Y Y Y Y Y (by omega) ?_)
      | (show AOp _ _ ⟨_, .binOp _ _ _ _ _, _, _, _, _⟩ _ _ _; first | refine Au hG Y Y Y Y Y (by omega) ?_ | refine As hG Y Y Y Y Y (by omega) ?_ | ((fail_if_success have := kk); refine Aq hG Y Y Y Y Y (fun h => ?_) (fun h => ?_)))
      | (show AOp _ _ ⟨_, .load _ _, _, _, _, _⟩ _ _ _; first | refine Bo hG Y Y Y ?_ | refine Aj 0 hG Y Y Y Y ?_)
      | (show AOp _ _ ⟨_, .indexAddr _ _ _, _, _, _, _⟩ _ _ _; first | refine Bn hG Y Y Y Y Y Y Y (by omega) ?_ | refine Bp hG Y Y Y Y Y Y Y (by omega) ?_ | refine r_idx hG Y Y ?_)
      | refine r_q hG Y Y Y ?_); try exact kk)
    | (show AL _ _ _ _ _ _ _ _; first | refine Bd Y Y Y ?_ | (refine Al ?_; first | show AW _ _ _ _ _ _ | show ∃ x', _ < _ ∧ _)) | (show AW _ _ (.seq _ _) _ _ _; refine Af ?_; intro Q1) | (show AW _ _ (.region _ _ false) _ _ _; refine Ad ?_; intro O1) | (show AW _ _ (.cond _ _ _) _ _ _; first | refine Ai Y ?_ | refine Ah Y ?_) | (show AW _ _ (.skip) _ _ _; refine Ag ?_; first | show AW _ _ _ _ _ _ | show ∃ x', _ < _ ∧ _) | (show AW _ _ (.block _ _) _ _ _; refine Aw ?_; intro Q1) | (show AW _ _ (.exit _) _ _ _; refine Bx ?_; first | show AW _ _ _ _ _ _ | show ∃ x', _ < _ ∧ _) | (show AW _ _ (.ret) _ _ _; refine Av ?_; try dsimp only [Ar, Aa, Ap, Ab])
    | (show DL _ _ _ _ _ _ _; refine dl_d Y Y (fun K kt kf => Aq hG Y Y Y Y Y kt kf) (fun h => ?_) (fun h => ?_))
    | (show DL _ _ _ _ _ _ _; refine dl_s Y Y Y ?_) | (show DL _ _ _ _ _ _ _; refine Bk ?_; first | show AW _ _ _ _ _ _ | show ∃ x', _ < _ ∧ _) | (show AW _ _ (.region _ _ true) _ _ _; refine A8 mix (by kernel_rfl) ?_; intro O1) | fail)
      refine A9 (A2 rfl A3) (.eq ?_) rfl
      have : a = b := List.ext_getElem hlen fun j h1 h2 => by
        have := hp j (by omega)
        simpa [List.getD_eq_getElem?_getD, List.getElem?_eq_getElem, h1, h2] using this
      rw [decide_eq_true this]; rfl
  · repeat' (first
    | ((first | (show AL _ _ _ _ _ _ _ _; refine Ac Y ?_) | (show DL _ _ _ _ _ _ _; refine' Be Y Y (fun K kk => ?_) ?_; try (show Go.Ts.T; rotate_left))); (first
      | (show AOp _ _ ⟨_, .move _, _, _, _, _⟩ _ _ _; refine Ao hG Y Y ?_)
      | (show AOp _ _ ⟨_, .assign _, _, _, _, _⟩ _ _ _; refine A1 hG Y Y ?_)
      | (show AOp _ _ ⟨_, .call ⟨.builtin .len, _, _⟩, _, _, _, _⟩ _ _ _; first | refine Bb hG Y Y Y Y ?_ | refine Bi hG Y Y Y Y Y ?_)
      | (show AOp _ _ ⟨_, .binOp .add _ _ _ _, _, _, _, _⟩ _ _ _; first | refine Az hG Y Y Y Y Y (by omega) ?_)
      | (show AOp _ _ ⟨_, .binOp _ _ _ _ _, _, _, _, _⟩ _ _ _; first | refine Au hG Y Y Y Y Y (by omega) ?_ | refine As hG Y Y Y Y Y (by omega) ?_ | ((fail_if_success have := kk); refine Aq hG Y Y Y Y Y (fun h => ?_) (fun h => ?_)))
      | (show AOp _ _ ⟨_, .load _ _, _, _, _, _⟩ _ _ _; first | refine Bo hG Y Y Y ?_ | refine Aj 0 hG Y Y Y Y ?_)
      | (show AOp _ _ ⟨_, .indexAddr _ _ _, _, _, _, _⟩ _ _ _; first | refine Bn hG Y Y Y Y Y Y Y (by omega) ?_ | refine Bp hG Y Y Y Y Y Y Y (by omega) ?_ | refine r_idx hG Y Y ?_)
      | refine r_q hG Y Y Y ?_); try exact kk)
    | (show AL _ _ _ _ _ _ _ _; first | refine Bd Y Y Y ?_ | (refine Al ?_; first | show AW _ _ _ _ _ _ | show ∃ x', _ < _ ∧ _)) | (show AW _ _ (.seq _ _) _ _ _; refine Af ?_; intro Q1) | (show AW _ _ (.region _ _ false) _ _ _; refine Ad ?_; intro O1) | (show AW _ _ (.cond _ _ _) _ _ _; first | refine Ai Y ?_ | refine Ah Y ?_) | (show AW _ _ (.skip) _ _ _; refine Ag ?_; first | show AW _ _ _ _ _ _ | show ∃ x', _ < _ ∧ _) | (show AW _ _ (.block _ _) _ _ _; refine Aw ?_; intro Q1) | (show AW _ _ (.exit _) _ _ _; refine Bx ?_; first | show AW _ _ _ _ _ _ | show ∃ x', _ < _ ∧ _) | (show AW _ _ (.ret) _ _ _; refine Av ?_; try dsimp only [Ar, Aa, Ap, Ab])
    | (show DL _ _ _ _ _ _ _; refine dl_d Y Y (fun K kt kf => Aq hG Y Y Y Y Y kt kf) (fun h => ?_) (fun h => ?_))
    | (show DL _ _ _ _ _ _ _; refine dl_s Y Y Y ?_) | (show DL _ _ _ _ _ _ _; refine Bk ?_; first | show AW _ _ _ _ _ _ | show ∃ x', _ < _ ∧ _) | (show AW _ _ (.region _ _ true) _ _ _; refine A8 mix (by kernel_rfl) ?_; intro O1) | fail)
    refine A9 (A2 rfl A3) (.eq ?_) rfl
    rw [decide_eq_false (fun h => hlen (by rw [h]))]; rfl
end Go.Proofs.Ytemgmkoggnjgjaa
namespace Go.Proofs.Ytemgmkoggnjgjaa
open Go.Ts Go.Sets
attribute [local irreducible] Go.Ts.AW Go.Ts.AOps Go.Ts.AL Go.Ts.AOp Go.Ts.ACalls Go.Ts.DL Go.Ts.DQ Go.Ts.EL
def setsV (a b c : List UInt16) : T := .agg [cT a, cT b, cT c]
theorem sets_wk {x y z : T} {a b c : List UInt16} (hx : catsT x = some a) (hy : catsT y = some b) (hz : catsT z = some c) : Wk (.agg [x, y, z]) (setsV a b c) := Wk.aggL (wk3 (catsT_wk hx) (catsT_wk hy) (catsT_wk hz))
theorem mayC_le {a : List UInt16} (h : mayC a = true) : a.length ≤ 16 := by
  unfold mayC at h; rw [Bool.and_eq_true, decide_eq_true_eq] at h; exact h.1
theorem ref_SameSets {x y z x' y' z' : T} {a b c a' b' c' : List UInt16} (hx : catsT x = some a) (hy : catsT y = some b) (hz : catsT z = some c) (hx' : catsT x' = some a') (hy' : catsT y' = some b') (hz' : catsT z' = some c')
    (ha : a.length ≤ 1000000000) (hb : b.length ≤ 1000000000) (hc : c.length ≤ 1000000000) (ha' : a'.length ≤ 1000000000) (hb' : b'.length ≤ 1000000000) (hc' : c'.length ≤ 1000000000) :
    Pure Try.prog 21 [.agg [x, y, z], .agg [x', y', z']] (.bool (decide (a = a' ∧ b = b' ∧ c = c'))) := by
  refine Pure.weak (us := [setsV a b c, setsV a' b' c']) ?_ (wk2 (sets_wk hx hy hz) (sets_wk hx' hy' hz'))
  intro off
  refine A5 (N := 24) (rs := [.tmp 4]) hG Try.func21 rfl rfl rfl rfl rfl ?_
  have m1 := ref_SameSet (Ay a) (Ay a') (by omega) (by omega)
  have m2 := ref_SameSet (Ay b) (Ay b') (by omega) (by omega)
  have m3 := ref_SameSet (Ay c) (Ay c') (by omega) (by omega)
  by_cases h1 : a = a'
  · rw [decide_eq_true h1] at m1
    by_cases h2 : b = b'
    · rw [decide_eq_true h2] at m2
      by_cases h3 : c = c'
      · rw [decide_eq_true h3] at m3
        repeat' (first
    | ((show AL _ _ _ _ _ _ _ _; refine Ac Y ?_); (first
      | (show AOp _ _ ⟨_, .move _, _, _, _, _⟩ _ _ _; refine Ao hG Y Y ?_)
      | (show AOp _ _ ⟨_, .assign _, _, _, _, _⟩ _ _ _; refine A1 hG Y Y ?_)
      | (show AOp _ _ ⟨_, .load _ _, _, _, _, _⟩ _ _ _; first | refine Aj 0 hG Y Y Y Y ?_ | refine Aj 1 hG Y Y Y Y ?_ | refine Aj 2 hG Y Y Y Y ?_)
      | (show AOp _ _ ⟨_, .pick _ _ _, _, _, _, _⟩ _ _ _; refine r_pick hG Y Y Y ?_)
      | (show AOp _ _ ⟨_, .box _ _, _, _, _, _⟩ _ _ _; refine r_box hG Y Y Y (fun i => ?_))
      | (show AOp _ _ ⟨_, .call ⟨.value _, _, _⟩, _, _, _, _⟩ _ _ _; first | refine A7 Y Y Y Y Y (by apply m1 <;> (first | assumption | omega | exact Ae _ _ | exact Ak _ | exact Am _ _ | exact Ay _ | rfl | (simp; omega))) ?_ | refine A7 Y Y Y Y Y (by apply m2 <;> (first | assumption | omega | exact Ae _ _ | exact Ak _ | exact Am _ _ | exact Ay _ | rfl | (simp; omega))) ?_ | refine A7 Y Y Y Y Y (by apply m3 <;> (first | assumption | omega | exact Ae _ _ | exact Ak _ | exact Am _ _ | exact Ay _ | rfl | (simp; omega))) ?_ | fail)
      | refine r_q hG Y Y Y ?_))
    | (show AL _ _ _ _ _ _ _ _; first | refine Bd Y Y Y ?_ | (refine Al ?_; first | show AW _ _ _ _ _ _ | show ∃ x', _ < _ ∧ _)) | (show AW _ _ (.seq _ _) _ _ _; refine Af ?_; intro Q1) | (show AW _ _ (.region _ _ false) _ _ _; refine Ad ?_; intro O1) | (show AW _ _ (.ret) _ _ _; refine Av ?_; try dsimp only [Ar, Aa, Ap, Ab]) | fail)
        exact A9 (A2 rfl A3) (.eq (by rw [decide_eq_true ⟨h1, h2, h3⟩]; rfl)) rfl
      · rw [decide_eq_false h3] at m3
        repeat' (first
    | ((show AL _ _ _ _ _ _ _ _; refine Ac Y ?_); (first
      | (show AOp _ _ ⟨_, .move _, _, _, _, _⟩ _ _ _; refine Ao hG Y Y ?_)
      | (show AOp _ _ ⟨_, .assign _, _, _, _, _⟩ _ _ _; refine A1 hG Y Y ?_)
      | (show AOp _ _ ⟨_, .load _ _, _, _, _, _⟩ _ _ _; first | refine Aj 0 hG Y Y Y Y ?_ | refine Aj 1 hG Y Y Y Y ?_ | refine Aj 2 hG Y Y Y Y ?_)
      | (show AOp _ _ ⟨_, .pick _ _ _, _, _, _, _⟩ _ _ _; refine r_pick hG Y Y Y ?_)
      | (show AOp _ _ ⟨_, .box _ _, _, _, _, _⟩ _ _ _; refine r_box hG Y Y Y (fun i => ?_))
      | (show AOp _ _ ⟨_, .call ⟨.value _, _, _⟩, _, _, _, _⟩ _ _ _; first | refine A7 Y Y Y Y Y (by apply m1 <;> (first | assumption | omega | exact Ae _ _ | exact Ak _ | exact Am _ _ | exact Ay _ | rfl | (simp; omega))) ?_ | refine A7 Y Y Y Y Y (by apply m2 <;> (first | assumption | omega | exact Ae _ _ | exact Ak _ | exact Am _ _ | exact Ay _ | rfl | (simp; omega))) ?_ | refine A7 Y Y Y Y Y (by apply m3 <;> (first | assumption | omega | exact Ae _ _ | exact Ak _ | exact Am _ _ | exact Ay _ | rfl | (simp; omega))) ?_ | fail)
      | refine r_q hG Y Y Y ?_))
    | (show AL _ _ _ _ _ _ _ _; first | refine Bd Y Y Y ?_ | (refine Al ?_; first | show AW _ _ _ _ _ _ | show ∃ x', _ < _ ∧ _)) | (show AW _ _ (.seq _ _) _ _ _; refine Af ?_; intro Q1) | (show AW _ _ (.region _ _ false) _ _ _; refine Ad ?_; intro O1) | (show AW _ _ (.ret) _ _ _; refine Av ?_; try dsimp only [Ar, Aa, Ap, Ab]) | fail)
        exact A9 (A2 rfl A3) (.eq (by rw [decide_eq_false fun h => h3 h.2.2]; rfl)) rfl
    · rw [decide_eq_false h2] at m2
      repeat' (first
    | ((show AL _ _ _ _ _ _ _ _; refine Ac Y ?_); (first
      | (show AOp _ _ ⟨_, .move _, _, _, _, _⟩ _ _ _; refine Ao hG Y Y ?_)
      | (show AOp _ _ ⟨_, .assign _, _, _, _, _⟩ _ _ _; refine A1 hG Y Y ?_)
      | (show AOp _ _ ⟨_, .load _ _, _, _, _, _⟩ _ _ _; first | refine Aj 0 hG Y Y Y Y ?_ | refine Aj 1 hG Y Y Y Y ?_ | refine Aj 2 hG Y Y Y Y ?_)
      | (show AOp _ _ ⟨_, .pick _ _ _, _, _, _, _⟩ _ _ _; refine r_pick hG Y Y Y ?_)
      | (show AOp _ _ ⟨_, .box _ _, _, _, _, _⟩ _ _ _; refine r_box hG Y Y Y (fun i => ?_))
      | (show AOp _ _ ⟨_, .call ⟨.value _, _, _⟩, _, _, _, _⟩ _ _ _; first | refine A7 Y Y Y Y Y (by apply m1 <;> (first | assumption | omega | exact Ae _ _ | exact Ak _ | exact Am _ _ | exact Ay _ | rfl | (simp; omega))) ?_ | refine A7 Y Y Y Y Y (by apply m2 <;> (first | assumption | omega | exact Ae _ _ | exact Ak _ | exact Am _ _ | exact Ay _ | rfl | (simp; omega))) ?_ | refine A7 Y Y Y Y Y (by apply m3 <;> (first | assumption | omega | exact Ae _ _ | exact Ak _ | exact Am _ _ | exact Ay _ | rfl | (simp; omega))) ?_ | fail)
      | refine r_q hG Y Y Y ?_))
    | (show AL _ _ _ _ _ _ _ _; first | refine Bd Y Y Y ?_ | (refine Al ?_; first | show AW _ _ _ _ _ _ | show ∃ x', _ < _ ∧ _)) | (show AW _ _ (.seq _ _) _ _ _; refine Af ?_; intro Q1) | (show AW _ _ (.region _ _ false) _ _ _; refine Ad ?_; intro O1) | (show AW _ _ (.ret) _ _ _; refine Av ?_; try dsimp only [Ar, Aa, Ap, Ab]) | fail)
      exact A9 (A2 rfl A3) (.eq (by rw [decide_eq_false fun h => h2 h.2.1]; rfl)) rfl
  · rw [decide_eq_false h1] at m1
    repeat' (first
    | ((show AL _ _ _ _ _ _ _ _; refine Ac Y ?_); (first
      | (show AOp _ _ ⟨_, .move _, _, _, _, _⟩ _ _ _; refine Ao hG Y Y ?_)
      | (show AOp _ _ ⟨_, .assign _, _, _, _, _⟩ _ _ _; refine A1 hG Y Y ?_)
      | (show AOp _ _ ⟨_, .load _ _, _, _, _, _⟩ _ _ _; first | refine Aj 0 hG Y Y Y Y ?_ | refine Aj 1 hG Y Y Y Y ?_ | refine Aj 2 hG Y Y Y Y ?_)
      | (show AOp _ _ ⟨_, .pick _ _ _, _, _, _, _⟩ _ _ _; refine r_pick hG Y Y Y ?_)
      | (show AOp _ _ ⟨_, .box _ _, _, _, _, _⟩ _ _ _; refine r_box hG Y Y Y (fun i => ?_))
      | (show AOp _ _ ⟨_, .call ⟨.value _, _, _⟩, _, _, _, _⟩ _ _ _; first | refine A7 Y Y Y Y Y (by apply m1 <;> (first | assumption | omega | exact Ae _ _ | exact Ak _ | exact Am _ _ | exact Ay _ | rfl | (simp; omega))) ?_ | refine A7 Y Y Y Y Y (by apply m2 <;> (first | assumption | omega | exact Ae _ _ | exact Ak _ | exact Am _ _ | exact Ay _ | rfl | (simp; omega))) ?_ | refine A7 Y Y Y Y Y (by apply m3 <;> (first | assumption | omega | exact Ae _ _ | exact Ak _ | exact Am _ _ | exact Ay _ | rfl | (simp; omega))) ?_ | fail)
      | refine r_q hG Y Y Y ?_))
    | (show AL _ _ _ _ _ _ _ _; first | refine Bd Y Y Y ?_ | (refine Al ?_; first | show AW _ _ _ _ _ _ | show ∃ x', _ < _ ∧ _)) | (show AW _ _ (.seq _ _) _ _ _; refine Af ?_; intro Q1) | (show AW _ _ (.region _ _ false) _ _ _; refine Ad ?_; intro O1) | (show AW _ _ (.ret) _ _ _; refine Av ?_; try dsimp only [Ar, Aa, Ap, Ab]) | fail)
    exact A9 (A2 rfl A3) (.eq (by rw [decide_eq_false fun h => h1 h.1]; rfl)) rfl

end Go.Proofs.Ytemgmkoggnjgjaa
namespace Go.Proofs.Ytemgmkoggnjgjaa
open Go.Ts Go.Sets
attribute [local irreducible] Go.Ts.AW Go.Ts.AOps Go.Ts.AL Go.Ts.AOp Go.Ts.ACalls Go.Ts.DL Go.Ts.DQ Go.Ts.EL
theorem takeC_used {s : List UInt8} {a : List UInt16} {n : Nat} (h : takeC s = (a, n, 0)) : n ≤ s.length ∧ a.length ≤ 16 ∧ 1 ≤ n := by
  unfold takeC at h
  split at h
  · injection h with h1 h2; injection h2 with h3 h4; cases h4
  · split at h
    · injection h with h1 h2; injection h2 with h3 h4; cases h4
    · split at h
      · rename_i q1 q2 q3
        injection h with h1 h2; injection h2 with h3 h4; subst h3; subst h1
        refine ⟨by omega, ?_, by omega⟩
        unfold mayC at q3
        rw [Bool.and_eq_true, decide_eq_true_eq] at q3
        exact q3.1
      · injection h with h1 h2; injection h2 with h3 h4; cases h4
theorem cats_Take_is {x : T} {s : List UInt8} {a : List UInt16} {n : Nat} {e : Int} (hx : bytesT x = some s) (hl : s.length ≤ 4294967296) (h : takeC s = (a, n, e)) : Pure Try.prog 60 [x] (.tup [cT a, .int .i64 n, .int .i64 e]) := by
  have := cats_Take hx hl; rw [h] at this; exact this
end Go.Proofs.Ytemgmkoggnjgjaa
namespace Go.Proofs.Ytemgmkoggnjgjaa
open Go.Ts Go.Sets
def flat2 (a : List UInt16) : List UInt8 := a.flatMap fun c => putI c.toNat 2
theorem flat2_cons (x : UInt16) (a : List UInt16) : flat2 (x :: a) = be x.toNat 2 ++ flat2 a := by
  unfold flat2; rw [List.flatMap_cons, putI, if_pos (by omega)]; rfl
theorem putC_eq (b : List UInt8) (a : List UInt16) : putC b a = b ++ putC [] a := by simp [putC, List.append_assoc]
theorem putC_nil (a : List UInt16) : putC [] a = UInt8.ofNat a.length :: flat2 a := by simp [putC, putI1, flat2]
theorem putC_len (a : List UInt16) : (putC [] a).length = 1 + 2 * a.length := by rw [putC_nil, List.length_cons, flat2, flat2_length]; omega
theorem beV_be2 (v : Nat) (h : v < 65536) : beV (be v 2) = v := by
  simp [be, beV, UInt8.toNat_ofNat']; omega
theorem flat2_drop : ∀ (a : List UInt16) (i : Nat) (t : List UInt8), i ≤ a.length → (flat2 a ++ t).drop (2 * i) = flat2 (a.drop i) ++ t
  | a, 0, t, _ => by simp
  | [], i + 1, t, h => by simp at h
  | x :: a, i + 1, t, h => by
    rw [flat2_cons, List.append_assoc, show 2 * (i + 1) = (be x.toNat 2).length + 2 * i by rw [be_length]; omega, List.drop_length_add_append, flat2_drop a i t (by simpa using h)]; rfl
theorem flat2_take (a : List UInt16) (t : List UInt8) (h : a ≠ []) : (flat2 a ++ t).take 2 = be (a.getD 0 default).toNat 2 := by
  cases a with
  | nil => exact absurd rfl h
  | cons x a =>
    rw [flat2_cons, List.append_assoc]
    have : (be x.toNat 2).length = 2 := be_length _ _
    rw [List.take_append_of_le_length (by omega), List.take_of_length_le (by omega)]; rfl
theorem range_map_eq {α : Type} [Inhabited α] (l : List α) (g : Nat → α) (h : ∀ i, i < l.length → g i = l.getD i default) : (List.range l.length).map g = l := by
  refine List.ext_getElem (by simp) fun i h1 h2 => ?_
  rw [List.getElem_map, List.getElem_range, h i h2]
  simp [List.getElem?_eq_getElem h2]
theorem takeC_putC {a : List UInt16} (ha : mayC a = true) (t : List UInt8) : takeC (putC [] a ++ t) = (a, 1 + 2 * a.length, 0) := by
  have hl := mayC_le ha
  have h1 : beV ((putC [] a ++ t).take 1) = a.length := by
    rw [putC_nil]; simp [beV, UInt8.toNat_ofNat']; omega
  have h2 : (putC [] a ++ t).length = 1 + 2 * a.length + t.length := by rw [List.length_append, putC_len]
  have h3 : (List.range a.length).map (fun i => UInt16.ofNat (beV (((putC [] a ++ t).drop (1 + 2 * i)).take 2))) = a := by
    refine range_map_eq a _ fun i hi => ?_
    have : (putC [] a ++ t).drop (1 + 2 * i) = flat2 (a.drop i) ++ t := by
      rw [putC_nil, List.cons_append, show 1 + 2 * i = 2 * i + 1 by omega, List.drop_succ_cons]
      exact flat2_drop a i t (by omega)
    rw [this, flat2_take _ _ (by intro h; have := congrArg List.length h; simp at this; omega), beV_be2 _ (UInt16.toNat_lt _)]
    simp [List.getD_eq_getElem?_getD]
  unfold takeC
  rw [h1, h3, if_neg (by omega), if_neg (by omega), if_pos ha]
theorem takeC_short {a : List UInt16} (hl : a.length ≤ 16) (k : Nat) (hk : k < 1 + 2 * a.length) (t : List UInt8) : takeC ((putC [] a ++ t).take k) = ([], 0, 3) := by
  have hp := putC_len a
  have e : (putC [] a ++ t).take k = (putC [] a).take k := List.take_append_of_le_length (by omega)
  have h2 : ((putC [] a).take k).length = k := by rw [List.length_take]; omega
  rw [e]
  unfold takeC
  by_cases h0 : k < 1
  · rw [if_pos (by omega)]
  · have h1 : beV (((putC [] a).take k).take 1) = a.length := by
      rw [List.take_take, show min 1 k = 1 by omega, putC_nil]; simp [beV, UInt8.toNat_ofNat']; omega
    rw [h1, if_neg (by omega), if_pos (by omega)]
theorem be_beV2 (x y : UInt8) : be (UInt16.ofNat (beV [x, y])).toNat 2 = [x, y] := by
  have hx := x.toNat_lt
  have hy := y.toNat_lt
  have : (UInt16.ofNat (beV [x, y])).toNat = x.toNat * 256 + y.toNat := by simp [beV, UInt16.toNat_ofNat']; omega
  rw [this]
  have e1 : UInt8.ofNat ((x.toNat * 256 + y.toNat) / 256) = x := by
    rw [← UInt8.toNat_inj, UInt8.toNat_ofNat']; omega
  have e2 : UInt8.ofNat (x.toNat * 256 + y.toNat) = y := by
    rw [← UInt8.toNat_inj, UInt8.toNat_ofNat']; omega
  simp only [be, Nat.mul_one, Nat.mul_zero, Nat.pow_zero, Nat.div_one, show 2 ^ 8 = 256 from rfl, e1, e2]
theorem flat2_snoc (a : List UInt16) (x : UInt16) : flat2 (a ++ [x]) = flat2 a ++ be x.toNat 2 := by
  unfold flat2; rw [List.flatMap_append]; simp [putI]
theorem flat2_back (r : List UInt8) : ∀ m, 2 * m ≤ r.length → flat2 ((List.range m).map fun i => UInt16.ofNat (beV ((r.drop (2 * i)).take 2))) = r.take (2 * m)
  | 0, _ => by simp [flat2]
  | m + 1, h => by
    rw [List.range_succ, List.map_append, List.map_singleton, flat2_snoc, flat2_back r m (by omega)]
    obtain ⟨x, y, hxy⟩ : ∃ x y, (r.drop (2 * m)).take 2 = [x, y] := by
      have : ((r.drop (2 * m)).take 2).length = 2 := by rw [List.length_take, List.length_drop]; omega
      match hh : (r.drop (2 * m)).take 2, this with
      | [x, y], _ => exact ⟨x, y, rfl⟩
    rw [hxy, be_beV2, ← hxy, show 2 * (m + 1) = 2 * m + 2 by omega, List.take_add]
theorem takeC_back {s : List UInt8} {a : List UInt16} {n : Nat} (h : takeC s = (a, n, 0)) : putC [] a = s.take n := by
  unfold takeC at h
  split at h
  · injection h with h1 h2; injection h2 with h3 h4; cases h4
  split at h
  · injection h with h1 h2; injection h2 with h3 h4; cases h4
  split at h
  · rename_i q1 q2 q3
    injection h with h1 h2; injection h2 with h3 h4
    cases s with
    | nil => simp at q1
    | cons x r =>
      have hx := x.toNat_lt
      have e0 : beV ((x :: r).take 1) = x.toNat := by simp [beV]
      rw [e0] at h1 h3 q2
      rw [putC_nil]
      subst h3
      rw [show 1 + 2 * x.toNat = 2 * x.toNat + 1 by omega, List.take_succ_cons]
      have hal : a.length = x.toNat := by rw [← h1]; simp
      congr 1
      · rw [hal]; simp
      · rw [← h1]
        have := flat2_back r x.toNat (by simp at q2; omega)
        rw [← this]
        congr 2
        funext i
        rw [show 1 + 2 * i = 2 * i + 1 by omega, List.drop_succ_cons]
  · injection h with h1 h2; injection h2 with h3 h4; cases h4
theorem takeC_may {s : List UInt8} {a : List UInt16} {n : Nat} (h : takeC s = (a, n, 0)) : mayC a = true := by
  unfold takeC at h
  split at h
  · injection h with h1 h2; injection h2 with h3 h4; cases h4
  split at h
  · injection h with h1 h2; injection h2 with h3 h4; cases h4
  split at h
  · rename_i q3
    injection h with h1 h2; rw [← h1]; exact q3
  · injection h with h1 h2; injection h2 with h3 h4; cases h4
end Go.Proofs.Ytemgmkoggnjgjaa
namespace Go.Proofs.Ytemgmkoggnjgjaa
open Go.Ts
set_option linter.unusedSimpArgs false
set_option linter.unusedVariables false
abbrev PR := UInt16 × UInt8
def pT (p : PR) : T := .agg [hT p.1, bT p.2]
instance : Enc pT 2 := ⟨fun x c h => by simp [pT, T.cells] at h; rcases h with rfl | rfl <;> rfl, fun x => rfl⟩
def okP (df : UInt8) (p : PR) : Bool := decide (p.2.toNat ≤ 4) && decide (p.2 ≠ df)
def okAt (df : UInt8) (l : List PR) (i : Nat) : Bool := okP df (l.getD i default) && (decide (i = 0) || decide ((l.getD (i - 1) default).1.toNat < (l.getD i default).1.toNat))
def mayLab (df : UInt8) (l : List PR) : Bool := decide (1 ≤ df.toNat ∧ df.toNat ≤ 4) && decide (l.length ≤ 16) && (List.range l.length).all (okAt df l)
theorem mayLab_len {df : UInt8} {l : List PR} (h : mayLab df l = true) : l.length ≤ 16 ∧ 1 ≤ df.toNat ∧ df.toNat ≤ 4 := by
  unfold mayLab at h; simp only [Bool.and_eq_true, decide_eq_true_eq] at h; exact ⟨h.1.2, h.1.1⟩
def putP (p : PR) : List UInt8 := putI (p.1.toNat : Nat) (2 : Nat) ++ putI (p.2.toNat : Nat) (1 : Nat)
theorem putP_eq (p : PR) : putP p = be p.1.toNat 2 ++ [p.2] := by
  unfold putP
  rw [putI_be _ _ (by omega), putI_be _ _ (by omega)]
  simp [be]
theorem putP_len (p : PR) : (putP p).length = 3 := by rw [putP_eq, List.length_append, be_length]; rfl
def flatP (l : List PR) : List UInt8 := l.flatMap putP
theorem flatP_cons (p : PR) (l : List PR) : flatP (p :: l) = putP p ++ flatP l := by simp [flatP]
theorem flatP_len : ∀ l : List PR, (flatP l).length = 3 * l.length
  | [] => rfl
  | p :: l => by rw [flatP_cons, List.length_append, putP_len, flatP_len l, List.length_cons]; omega
def putLab (b : List UInt8) (df : UInt8) (l : List PR) : List UInt8 := b ++ putI (df.toNat : Nat) (1 : Nat) ++ putI (l.length : Nat) (1 : Nat) ++ flatP l
def takeP (b : List UInt8) : Nat → List PR → Nat → Option (List PR × Nat)
  | 0, acc, p => some (acc, p)
  | n + 1, acc, p => if b.length - p < 3 then none else takeP b n (acc ++ [(UInt16.ofNat (beV ((b.drop p).take 2)), b.getD (p + 2) default)]) (p + 3)
structure TL where
  df : UInt8
  ps : List PR
  n : Nat
  e : Int
def Bl (b : List UInt8) : TL :=
  if b.length < 2 then ⟨0, [], 0, 3⟩
  else match takeP b (b.getD 1 default).toNat [] 2 with
    | none => ⟨0, [], 0, 3⟩
    | some (l, q) => if mayLab (b.getD 0 default) l then ⟨b.getD 0 default, l, q, 0⟩ else ⟨0, [], 0, 2⟩
theorem first_of (p : PR) (t : List UInt8) : (UInt16.ofNat (beV ((putP p ++ t).take 2)), (putP p ++ t).getD 2 default) = p := by
  have l2 := be_length p.1.toNat 2
  have hv := beV_be p.1.toNat 2 (by have := p.1.toNat_lt; omega)
  rw [putP_eq, List.append_assoc, List.take_left' l2, hv]
  have e : (be p.1.toNat 2 ++ ([p.2] ++ t)).getD 2 default = p.2 := by
    rw [List.getD_eq_getElem?_getD, List.getElem?_append_right (by omega), l2]; rfl
  rw [e]
  simp
theorem takeP_put : ∀ (l : List PR) (pre : List UInt8) (acc : List PR) (rest : List UInt8), takeP (pre ++ flatP l ++ rest) l.length acc pre.length = some (acc ++ l, pre.length + 3 * l.length)
  | [], pre, acc, rest => by simp [takeP, flatP]
  | p :: l, pre, acc, rest => by
    have e : (pre ++ flatP (p :: l) ++ rest).drop pre.length = putP p ++ (flatP l ++ rest) := by rw [flatP_cons]; simp
    have hl := putP_len p
    have hf := flatP_len l
    rw [List.length_cons, takeP, if_neg (by simp only [List.length_append, flatP_cons]; omega), e]
    have g : (pre ++ flatP (p :: l) ++ rest).getD (pre.length + 2) default = (putP p ++ (flatP l ++ rest)).getD 2 default := by
      rw [List.getD_eq_getElem?_getD, List.getD_eq_getElem?_getD, ← List.getElem?_drop, e]
    rw [g, first_of]
    have h2 := takeP_put l (pre ++ putP p) (acc ++ [p]) rest
    rw [show pre ++ flatP (p :: l) ++ rest = pre ++ putP p ++ flatP l ++ rest by rw [flatP_cons]; simp]
    rw [List.length_append, hl] at h2
    rw [h2]
    simp; omega
theorem takeP_short : ∀ (l : List PR) (pre : List UInt8) (acc : List PR) (k : Nat), pre.length ≤ k → k < (pre ++ flatP l).length → takeP ((pre ++ flatP l).take k) l.length acc pre.length = none
  | [], pre, acc, k, h1, h2 => by simp [flatP] at h2; omega
  | p :: l, pre, acc, k, h1, h2 => by
    have hl := putP_len p
    rw [List.length_cons, takeP]
    by_cases h3 : k - pre.length < 3
    · rw [if_pos (by rw [List.length_take]; omega)]
    · have e5 : pre ++ flatP (p :: l) = pre ++ putP p ++ flatP l := by rw [flatP_cons]; simp
      rw [if_neg (by rw [List.length_take]; omega)]
      have e0 : (pre ++ flatP (p :: l)).take k = pre ++ putP p ++ (flatP l).take (k - (pre.length + 3)) := by
        rw [e5, List.take_append, List.take_of_length_le (by rw [List.length_append]; omega), List.length_append, hl]
      have e : ((pre ++ flatP (p :: l)).take k).drop pre.length = putP p ++ (flatP l).take (k - (pre.length + 3)) := by rw [e0, List.append_assoc, List.drop_left]
      have g : ((pre ++ flatP (p :: l)).take k).getD (pre.length + 2) default = (putP p ++ (flatP l).take (k - (pre.length + 3))).getD 2 default := by
        rw [List.getD_eq_getElem?_getD, List.getD_eq_getElem?_getD, ← List.getElem?_drop, e]
      rw [e, g, first_of, e5]
      have h4 := takeP_short l (pre ++ putP p) (acc ++ [p]) k (by rw [List.length_append]; omega) (by rwa [← e5])
      rw [List.length_append, hl] at h4
      exact h4
theorem takeP_back (b : List UInt8) : ∀ (n : Nat) (acc : List PR) (p : Nat) (l : List PR) (q : Nat), takeP b n acc p = some (l, q) → p ≤ b.length → ∃ l', l = acc ++ l' ∧ l'.length = n ∧ b.drop p = flatP l' ++ b.drop q ∧ q ≤ b.length ∧ q = p + 3 * n
  | 0, acc, p, l, q, h, hp => by
    rw [takeP] at h
    simp only [Option.some.injEq, Prod.mk.injEq] at h
    obtain ⟨rfl, rfl⟩ := h
    exact ⟨[], by simp, rfl, by simp [flatP], hp, by omega⟩
  | n + 1, acc, p, l, q, h, hp => by
    rw [takeP] at h
    by_cases h3 : b.length - p < 3
    · rw [if_pos h3] at h; cases h
    rw [if_neg h3] at h
    obtain ⟨l', r1, r2, r3, r4, r5⟩ := takeP_back b n _ _ l q h (by omega)
    refine ⟨(UInt16.ofNat (beV ((b.drop p).take 2)), b.getD (p + 2) default) :: l', by rw [r1]; simp, by simp [r2], ?_, r4, by omega⟩
    have hv : beV ((b.drop p).take 2) < 65536 := by have := beV_lt 2 ((b.drop p).take 2) (by rw [List.length_take, List.length_drop]; omega); simpa using this
    rw [flatP_cons, putP_eq]
    dsimp only
    have e1 : be (UInt16.ofNat (beV ((b.drop p).take 2))).toNat 2 = (b.drop p).take 2 := by
      rw [show (UInt16.ofNat (beV ((b.drop p).take 2))).toNat = beV ((b.drop p).take 2) by simp; omega]
      have := be_beV ((b.drop p).take 2)
      rwa [show ((b.drop p).take 2).length = 2 by rw [List.length_take, List.length_drop]; omega] at this
    rw [e1, List.append_assoc, ← r3]
    have e2 : b.drop p = (b.drop p).take 2 ++ ([b.getD (p + 2) default] ++ b.drop (p + 3)) := by
      have h4 : p + 2 < b.length := by omega
      have e3 : (b.drop p).drop 2 = [b.getD (p + 2) default] ++ b.drop (p + 3) := by
        rw [List.drop_drop, List.drop_eq_getElem_cons h4, List.getD_eq_getElem?_getD, List.getElem?_eq_getElem h4]; rfl
      rw [← e3, List.take_append_drop]
    rw [List.append_assoc]
    exact e2
theorem putLab_eq (b : List UInt8) (df : UInt8) (l : List PR) (h : l.length < 256) : putLab b df l = b ++ (df :: UInt8.ofNat l.length :: flatP l) := by
  unfold putLab
  rw [putI_be _ _ (by omega), putI_be _ _ (by omega)]
  simp [be]
theorem putLab_len (df : UInt8) (l : List PR) (h : l.length < 256) : (putLab [] df l).length = 2 + 3 * l.length := by
  rw [putLab_eq _ _ _ h]; simp [flatP_len]; omega
theorem takeLab_put {df : UInt8} {l : List PR} (h : mayLab df l = true) (t : List UInt8) : Bl (putLab [] df l ++ t) = ⟨df, l, (putLab [] df l).length, 0⟩ := by
  obtain ⟨h1, h2, h3⟩ := mayLab_len h
  rw [putLab_len _ _ (by omega), putLab_eq _ _ _ (by omega), List.nil_append]
  have e := takeP_put l [df, UInt8.ofNat l.length] [] t
  unfold Bl
  have g0 : ((df :: UInt8.ofNat l.length :: flatP l) ++ t).getD 0 default = df := rfl
  have g1 : (((df :: UInt8.ofNat l.length :: flatP l) ++ t).getD 1 default).toNat = l.length := by
    show (UInt8.ofNat l.length).toNat = _
    simp; omega
  rw [if_neg (by simp), g0, g1]
  have e2 : (df :: UInt8.ofNat l.length :: flatP l) ++ t = [df, UInt8.ofNat l.length] ++ flatP l ++ t := by simp
  rw [e2, show ([df, UInt8.ofNat l.length] : List UInt8).length = 2 from rfl] at *
  rw [e]
  simp only [List.nil_append, h, if_true]
theorem takeLab_short {df : UInt8} {l : List PR} (h : l.length < 256) (t : List UInt8) (k : Nat) (hk : k < (putLab [] df l).length) : Bl ((putLab [] df l ++ t).take k) = ⟨0, [], 0, 3⟩ := by
  rw [List.take_append_of_le_length (by omega)]
  rw [putLab_eq _ _ _ h, List.nil_append] at hk ⊢
  unfold Bl
  by_cases k2 : k < 2
  · rw [if_pos (by rw [List.length_take]; omega)]
  · obtain ⟨j, rfl⟩ : ∃ j, k = j + 2 := ⟨k - 2, by omega⟩
    have hl : ¬ ((df :: UInt8.ofNat l.length :: flatP l).take (j + 2)).length < 2 := by rw [List.length_take]; omega
    have g1 : (((df :: UInt8.ofNat l.length :: flatP l).take (j + 2)).getD 1 default).toNat = l.length := by
      show (UInt8.ofNat l.length).toNat = _
      simp; omega
    rw [if_neg hl, g1]
    have e := takeP_short l [df, UInt8.ofNat l.length] [] (j + 2) (by simp) hk
    rw [show ([df, UInt8.ofNat l.length] : List UInt8).length = 2 from rfl] at e
    have e2 : df :: UInt8.ofNat l.length :: flatP l = [df, UInt8.ofNat l.length] ++ flatP l := by simp
    rw [e2, e]
theorem takeLab_ok {b : List UInt8} (h : (Bl b).e = 0) : mayLab (Bl b).df (Bl b).ps = true ∧ (Bl b).n ≤ b.length ∧ putLab [] (Bl b).df (Bl b).ps = b.take (Bl b).n := by
  unfold Bl at h ⊢
  by_cases h1 : b.length < 2
  · rw [if_pos h1] at h; cases h
  rw [if_neg h1] at h ⊢
  cases hp : takeP b (b.getD 1 default).toNat [] 2 with
  | none => rw [hp] at h; cases h
  | some r =>
    obtain ⟨l, q⟩ := r
    rw [hp] at h
    dsimp only at h ⊢
    by_cases hm : mayLab (b.getD 0 default) l = true
    · rw [if_pos hm]
      obtain ⟨l', r1, r2, r3, r4, r5⟩ := takeP_back b _ _ _ l q hp (by omega)
      rw [List.nil_append] at r1
      subst r1
      refine ⟨hm, r4, ?_⟩
      dsimp only
      have hm1 := (mayLab_len hm).1
      rw [putLab_eq _ _ _ (by omega), List.nil_append]
      match b, h1, r2, r3, r4, r5 with
      | [], h1, _, _, _, _ => simp at h1
      | [x], h1, _, _, _, _ => simp at h1
      | x :: y :: c, _, r2, r3, r4, r5 =>
        have g0 : (x :: y :: c).getD 0 default = x := rfl
        have g1 : (x :: y :: c).getD 1 default = y := rfl
        rw [g1] at r2
        have d2 : (x :: y :: c).drop 2 = c := rfl
        rw [d2] at r3
        obtain ⟨j, rfl⟩ : ∃ j, q = j + 2 := ⟨q - 2, by omega⟩
        have d3 : (x :: y :: c).drop (j + 2) = c.drop j := rfl
        rw [d3] at r3
        rw [g0, r2]
        have hfl := flatP_len l
        have e : flatP l = c.take j := by
          have := congrArg (List.take (flatP l).length) r3
          rw [List.take_left] at this
          rw [g1] at r5
          rw [← this, hfl, show 3 * l.length = j by omega]
        rw [e]
        simp
    · rw [if_neg hm] at h; cases h
theorem takeLab_no {b : List UInt8} (h : (Bl b).e ≠ 0) : Bl b = ⟨0, [], 0, (Bl b).e⟩ := by
  unfold Bl at h ⊢
  by_cases h1 : b.length < 2
  · rw [if_pos h1]
  rw [if_neg h1] at h ⊢
  cases hp : takeP b (b.getD 1 default).toNat [] 2 with
  | none => rfl
  | some r =>
    obtain ⟨l, q⟩ := r
    rw [hp] at h
    dsimp only at h ⊢
    by_cases hm : mayLab (b.getD 0 default) l = true
    · rw [if_pos hm] at h; exact absurd rfl h
    · rw [if_neg hm]
end Go.Proofs.Ytemgmkoggnjgjaa
namespace Go.Proofs.Ytemgmkoggnjgjaa
open Go.Ts
set_option linter.unusedSimpArgs false
set_option linter.unusedVariables false
attribute [local irreducible] Go.Ts.AW Go.Ts.AOps Go.Ts.AL Go.Ts.AOp Go.Ts.ACalls Go.Ts.DL Go.Ts.DQ Go.Ts.EL
theorem drop_1 {x : Nat × Ob} {L : List (Nat × Ob)} {R : List Nat} {off : Nat → Nat → Prop} : Go.Ts.GStep ⟨x :: L, R, off, none⟩ ⟨L, R, off, none⟩ := keep_step (σ := ⟨x :: L, R, off, none⟩) (L' := L) (R' := R) (List.sublist_cons_self _ _) (List.Sublist.refl _)
theorem drop_tok' {k : Nat} {R' : List Nat} {L : List (Nat × Ob)} {off : Nat → Nat → Prop} : Go.Ts.GStep ⟨L, k :: R', off, none⟩ ⟨L, [k], off, none⟩ := keep_step (σ := ⟨L, k :: R', off, none⟩) (L' := L) (R' := [k]) (List.Sublist.refl _) (List.singleton_sublist.2 (by simp))
theorem mayLab_no {df : UInt8} {l : List PR} {i : Nat} (hi : i < l.length) (h : okAt df l i = false) : mayLab df l = false := by
  unfold mayLab
  have : (List.range l.length).all (okAt df l) = false := by
    rw [List.all_eq_false]
    exact ⟨i, List.mem_range.2 hi, by rw [h]; decide⟩
  rw [this, Bool.and_false]
theorem mayLab_yes {df : UInt8} {l : List PR} (h1 : 1 ≤ df.toNat ∧ df.toNat ≤ 4) (h2 : l.length ≤ 16) (h : ∀ j < l.length, okAt df l j = true) : mayLab df l = true := by
  unfold mayLab
  rw [decide_eq_true h1, decide_eq_true h2, List.all_eq_true.2 fun j hj => h j (List.mem_range.1 hj)]; rfl
theorem level_May (l : UInt8) : Ts.Pure Try.prog 71 [bT l] (.bool (decide (l.toNat ≤ 4))) := by
  intro off
  refine A5 (N := 5) (rs := [.tmp 2]) hG Try.func71 rfl rfl rfl rfl rfl ?_
  by_cases h : l.toNat ≤ 4
  · repeat' (first
    | ((show AL _ _ _ _ _ _ _ _; refine Ac Y ?_); (first
      | (show AOp _ _ ⟨_, .move _, _, _, _, _⟩ _ _ _; refine Ao hG Y Y ?_)
      | (show AOp _ _ ⟨_, .assign _, _, _, _, _⟩ _ _ _; refine A1 hG Y Y ?_)
      | (show AOp _ _ ⟨_, .binOp _ _ _ _ _, _, _, _, _⟩ _ _ _; first | refine Au hG Y Y Y Y Y (by omega) ?_ | refine As hG Y Y Y Y Y (by omega) ?_ | (refine Aq hG Y Y Y Y Y (fun h => ?_) (fun h => ?_)))
      | refine r_q hG Y Y Y ?_))
    | (show AL _ _ _ _ _ _ _ _; first | refine Bd Y Y Y ?_ | (refine Al ?_; first | show AW _ _ _ _ _ _ | show ∃ x', _ < _ ∧ _)) | (show AW _ _ (.seq _ _) _ _ _; refine Af ?_; intro Q1) | (show AW _ _ (.region _ _ false) _ _ _; refine Ad ?_; intro O1) | (show AW _ _ (.ret) _ _ _; refine Av ?_; try dsimp only [Ar, Aa, Ap, Ab]) | fail)
    exact A9 (A2 rfl A3) (.eq (by rw [decide_eq_true h]; rfl)) rfl
  · repeat' (first
    | ((show AL _ _ _ _ _ _ _ _; refine Ac Y ?_); (first
      | (show AOp _ _ ⟨_, .move _, _, _, _, _⟩ _ _ _; refine Ao hG Y Y ?_)
      | (show AOp _ _ ⟨_, .assign _, _, _, _, _⟩ _ _ _; refine A1 hG Y Y ?_)
      | (show AOp _ _ ⟨_, .binOp _ _ _ _ _, _, _, _, _⟩ _ _ _; first | refine Au hG Y Y Y Y Y (by omega) ?_ | refine As hG Y Y Y Y Y (by omega) ?_ | (refine Aq hG Y Y Y Y Y (fun h => ?_) (fun h => ?_)))
      | refine r_q hG Y Y Y ?_))
    | (show AL _ _ _ _ _ _ _ _; first | refine Bd Y Y Y ?_ | (refine Al ?_; first | show AW _ _ _ _ _ _ | show ∃ x', _ < _ ∧ _)) | (show AW _ _ (.seq _ _) _ _ _; refine Af ?_; intro Q1) | (show AW _ _ (.region _ _ false) _ _ _; refine Ad ?_; intro O1) | (show AW _ _ (.ret) _ _ _; refine Av ?_; try dsimp only [Ar, Aa, Ap, Ab]) | fail)
    exact A9 (A2 rfl A3) (.eq (by rw [decide_eq_false h]; rfl)) rfl
structure LmX (df : UInt8) (l : List PR) where
  i : Nat
  p : Nat
  hi : i ≤ l.length
  hn : ∀ j < i, okAt df l j = true
set_option maxHeartbeats 1000000 in
theorem label_May {df : UInt8} {l : List PR} (hl : l.length ≤ 140737488351232) : Ts.Pure Try.prog 65 [.agg [bT df, .sl 2 .no (l.map pT)]] (.bool (mayLab df l)) := by
  intro off
  refine A5 (N := 55) (rs := [.tmp 2]) hG Try.func65 rfl rfl rfl rfl rfl ?_
  by_cases h0 : (1 ≤ df.toNat ∧ df.toNat ≤ 4) ∧ l.length ≤ 16
  · repeat' (first
    | ((first | (show AL _ _ _ _ _ _ _ _; refine Ac Y ?_) | (show DL _ _ _ _ _ _ _; refine' Be Y Y (fun K kk => ?_) ?_; try (show Go.Ts.T; rotate_left))); (first
      | (show AOp _ _ ⟨_, .move _, _, _, _, _⟩ _ _ _; refine Ao hG Y Y ?_)
      | (show AOp _ _ ⟨_, .assign _, _, _, _, _⟩ _ _ _; refine A1 hG Y Y ?_)
      | (show AOp _ _ ⟨_, .call ⟨.builtin .len, _, _⟩, _, _, _, _⟩ _ _ _; first | refine Bb hG Y Y Y Y ?_ | refine Bi hG Y Y Y Y Y ?_)
      | (show AOp _ _ ⟨_, .binOp .add _ _ _ _, _, _, _, _⟩ _ _ _; first | refine Az hG Y Y Y Y Y (by omega) ?_)
      | (show AOp _ _ ⟨_, .binOp .sub _ _ _ _, _, _, _, _⟩ _ _ _; first | refine Az hG Y Y Y Y Y (by omega) ?_)
      | (show AOp _ _ ⟨_, .binOp _ _ _ _ _, _, _, _, _⟩ _ _ _; first | refine Au hG Y Y Y Y Y (by omega) ?_ | refine As hG Y Y Y Y Y (by omega) ?_ | ((fail_if_success have := kk); refine Aq hG Y Y Y Y Y (fun h => ?_) (fun h => ?_)))
      | (show AOp _ _ ⟨_, .load _ _, _, _, _, _⟩ _ _ _; first | refine Bo hG Y Y Y ?_ | refine Aj 0 hG Y Y Y Y ?_ | refine Aj 1 hG Y Y Y Y ?_ | refine Aj 2 hG Y Y Y Y ?_)
      | (show AOp _ _ ⟨_, .indexAddr _ _ _, _, _, _, _⟩ _ _ _; first | refine Bn hG Y Y Y Y Y Y Y (by omega) ?_ | refine Bp hG Y Y Y Y Y Y Y (by omega) ?_ | refine r_idx hG Y Y ?_)
      | (show AOp _ _ ⟨_, .pick _ _ _, _, _, _, _⟩ _ _ _; refine r_pick hG Y Y Y ?_)
      | (show AOp _ _ ⟨_, .unOp _ _ _, _, _, _, _⟩ _ _ _; refine r_not hG Y Y Y ?_)
      | (show AOp _ _ ⟨_, .box _ _, _, _, _, _⟩ _ _ _; refine r_box hG Y Y Y (fun i => ?_))
      | (show AOp _ _ ⟨_, .alloc _, _, _, _, _⟩ _ _ _; refine Bg hG Y Y (fun i => ?_))
      | (show AOp _ _ ⟨_, .store _ _ _, _, _, _, _⟩ _ _ _; first | refine Ax 0 hG Y Y Y Y Y Y Y ?_ | refine Ax 1 hG Y Y Y Y Y Y Y ?_ | refine Ax 2 hG Y Y Y Y Y Y Y ?_)
      | refine r_q hG Y Y Y ?_); try exact kk)
    | (show AL _ _ _ _ _ _ _ _; first | refine Bd Y Y Y ?_ | (refine Al ?_; first | show AW _ _ _ _ _ _ | show ∃ x', _ < _ ∧ _)) | (show AW _ _ (.seq _ _) _ _ _; refine Af ?_; intro Q1) | (show AW _ _ (.region _ _ false) _ _ _; refine Ad ?_; intro O1) | (show AW _ _ (.cond _ _ _) _ _ _; first | refine Ai Y ?_ | refine Ah Y ?_) | (show AW _ _ (.skip) _ _ _; refine Ag ?_; first | show AW _ _ _ _ _ _ | show ∃ x', _ < _ ∧ _) | (show AW _ _ (.block _ _) _ _ _; refine Aw ?_; intro Q1) | (show AW _ _ (.exit _) _ _ _; refine Bx ?_; first | show AW _ _ _ _ _ _ | show ∃ x', _ < _ ∧ _) | (show AW _ _ (.ret) _ _ _; refine Av ?_; try dsimp only [Ar, Aa, Ap, Ab])
    | (show DL _ _ _ _ _ _ _; refine dl_d Y Y (fun K kt kf => Aq hG Y Y Y Y Y kt kf) (fun h => ?_) (fun h => ?_))
    | (show DL _ _ _ _ _ _ _; refine dl_s Y Y Y ?_) | (show DL _ _ _ _ _ _ _; refine Bk ?_; first | show AW _ _ _ _ _ _ | show ∃ x', _ < _ ∧ _) | (show AW _ _ (.region _ _ true) _ _ _; refine A8 mix (by kernel_rfl) ?_; intro O1) | fail)
    refine aw_loop (X := LmX df l) (fun x => [(1, .ptr x.p 0), (20, .sl 2 .no (l.map pT)), (21, .int .i64 l.length), (22, .int .i64 x.i)]) (fun x => ⟨[(x.p, .cells [bT df, .sl 2 .no (l.map pT)])], [], off, none⟩) (fun x => l.length - x.i) ⟨0, i, Nat.zero_le _, fun j hj => by omega⟩ ?_ (.refl _) ?_
    · exact .cons rfl (.cons rfl (.cons rfl (.consW rfl (.int rfl) (.nil _))))
    rintro ⟨j, p, hj, hn⟩
    dsimp only
    by_cases hjl : j < l.length
    · have hL := level_May (l.getD j default).2
      have hok : okAt df l j = (okP df (l.getD j default) && (decide (j = 0) || decide ((l.getD (j - 1) default).1.toNat < (l.getD j default).1.toNat))) := rfl
      unfold okP at hok
      by_cases c1 : (l.getD j default).2.toNat ≤ 4
      · rw [decide_eq_true c1] at hL hok
        by_cases c2 : (l.getD j default).2.toNat = df.toNat
        · have hf := mayLab_no hjl (by rw [hok, decide_eq_false (fun h => h (UInt8.toNat_inj.1 c2)), Bool.and_false, Bool.false_and])
          repeat' (first
    | ((first | (show AL _ _ _ _ _ _ _ _; refine Ac Y ?_) | (show DL _ _ _ _ _ _ _; refine' Be Y Y (fun K kk => ?_) ?_; try (show Go.Ts.T; rotate_left))); (first
      | (show AOp _ _ ⟨_, .move _, _, _, _, _⟩ _ _ _; refine Ao hG Y Y ?_)
      | (show AOp _ _ ⟨_, .assign _, _, _, _, _⟩ _ _ _; refine A1 hG Y Y ?_)
      | (show AOp _ _ ⟨_, .call ⟨.builtin .len, _, _⟩, _, _, _, _⟩ _ _ _; first | refine Bb hG Y Y Y Y ?_ | refine Bi hG Y Y Y Y Y ?_)
      | (show AOp _ _ ⟨_, .binOp .add _ _ _ _, _, _, _, _⟩ _ _ _; first | refine Az hG Y Y Y Y Y (by omega) ?_)
      | (show AOp _ _ ⟨_, .binOp .sub _ _ _ _, _, _, _, _⟩ _ _ _; first | refine Az hG Y Y Y Y Y (by omega) ?_)
      | (show AOp _ _ ⟨_, .binOp _ _ _ _ _, _, _, _, _⟩ _ _ _; first | refine Au hG Y Y Y Y Y (by omega) ?_ | refine As hG Y Y Y Y Y (by omega) ?_ | ((fail_if_success have := kk); refine Aq hG Y Y Y Y Y (fun h => ?_) (fun h => ?_)))
      | (show AOp _ _ ⟨_, .load _ _, _, _, _, _⟩ _ _ _; first | refine Bo hG Y Y Y ?_ | refine Aj 0 hG Y Y Y Y ?_ | refine Aj 1 hG Y Y Y Y ?_ | refine Aj 2 hG Y Y Y Y ?_)
      | (show AOp _ _ ⟨_, .indexAddr _ _ _, _, _, _, _⟩ _ _ _; first | refine Bn hG Y Y Y Y Y Y Y (by omega) ?_ | refine Bp hG Y Y Y Y Y Y Y (by omega) ?_ | refine r_idx hG Y Y ?_)
      | (show AOp _ _ ⟨_, .pick _ _ _, _, _, _, _⟩ _ _ _; refine r_pick hG Y Y Y ?_)
      | (show AOp _ _ ⟨_, .unOp _ _ _, _, _, _, _⟩ _ _ _; refine r_not hG Y Y Y ?_)
      | (show AOp _ _ ⟨_, .box _ _, _, _, _, _⟩ _ _ _; refine r_box hG Y Y Y (fun i => ?_))
      | (show AOp _ _ ⟨_, .alloc _, _, _, _, _⟩ _ _ _; refine Bg hG Y Y (fun i => ?_))
      | (show AOp _ _ ⟨_, .store _ _ _, _, _, _, _⟩ _ _ _; first | refine Ax 0 hG Y Y Y Y Y Y Y ?_ | refine Ax 1 hG Y Y Y Y Y Y Y ?_ | refine Ax 2 hG Y Y Y Y Y Y Y ?_)
      | (show AOp _ _ ⟨_, .call ⟨.value _, _, _⟩, _, _, _, _⟩ _ _ _; first | refine A7 Y Y Y Y Y (by apply hL <;> (first | assumption | omega | exact Ae _ _ | exact Ak _ | exact Am _ _ | exact Ay _ | rfl | (simp; omega))) ?_ | fail)
      | refine r_q hG Y Y Y ?_); try exact kk)
    | (show AL _ _ _ _ _ _ _ _; first | refine Bd Y Y Y ?_ | (refine Al ?_; first | show AW _ _ _ _ _ _ | show ∃ x', _ < _ ∧ _)) | (show AW _ _ (.seq _ _) _ _ _; refine Af ?_; intro Q1) | (show AW _ _ (.region _ _ false) _ _ _; refine Ad ?_; intro O1) | (show AW _ _ (.cond _ _ _) _ _ _; first | refine Ai Y ?_ | refine Ah Y ?_) | (show AW _ _ (.skip) _ _ _; refine Ag ?_; first | show AW _ _ _ _ _ _ | show ∃ x', _ < _ ∧ _) | (show AW _ _ (.block _ _) _ _ _; refine Aw ?_; intro Q1) | (show AW _ _ (.exit _) _ _ _; refine Bx ?_; first | show AW _ _ _ _ _ _ | show ∃ x', _ < _ ∧ _) | (show AW _ _ (.ret) _ _ _; refine Av ?_; try dsimp only [Ar, Aa, Ap, Ab])
    | (show DL _ _ _ _ _ _ _; refine dl_d Y Y (fun K kt kf => Aq hG Y Y Y Y Y kt kf) (fun h => ?_) (fun h => ?_))
    | (show DL _ _ _ _ _ _ _; refine dl_s Y Y Y ?_) | (show DL _ _ _ _ _ _ _; refine Bk ?_; first | show AW _ _ _ _ _ _ | show ∃ x', _ < _ ∧ _) | (show AW _ _ (.region _ _ true) _ _ _; refine A8 mix (by kernel_rfl) ?_; intro O1) | fail)
          exact A9 (A2 rfl A3) (.eq (by rw [hf]; rfl)) rfl
        · have c2' : (l.getD j default).2 ≠ df := fun e => c2 (by rw [e])
          rw [decide_eq_true c2'] at hok
          by_cases c3 : j = 0
          · subst c3
            repeat' (first
    | ((first | (show AL _ _ _ _ _ _ _ _; refine Ac Y ?_) | (show DL _ _ _ _ _ _ _; refine' Be Y Y (fun K kk => ?_) ?_; try (show Go.Ts.T; rotate_left))); (first
      | (show AOp _ _ ⟨_, .move _, _, _, _, _⟩ _ _ _; refine Ao hG Y Y ?_)
      | (show AOp _ _ ⟨_, .assign _, _, _, _, _⟩ _ _ _; refine A1 hG Y Y ?_)
      | (show AOp _ _ ⟨_, .call ⟨.builtin .len, _, _⟩, _, _, _, _⟩ _ _ _; first | refine Bb hG Y Y Y Y ?_ | refine Bi hG Y Y Y Y Y ?_)
      | (show AOp _ _ ⟨_, .binOp .add _ _ _ _, _, _, _, _⟩ _ _ _; first | refine Az hG Y Y Y Y Y (by omega) ?_)
      | (show AOp _ _ ⟨_, .binOp .sub _ _ _ _, _, _, _, _⟩ _ _ _; first | refine Az hG Y Y Y Y Y (by omega) ?_)
      | (show AOp _ _ ⟨_, .binOp _ _ _ _ _, _, _, _, _⟩ _ _ _; first | refine Au hG Y Y Y Y Y (by omega) ?_ | refine As hG Y Y Y Y Y (by omega) ?_ | ((fail_if_success have := kk); refine Aq hG Y Y Y Y Y (fun h => ?_) (fun h => ?_)))
      | (show AOp _ _ ⟨_, .load _ _, _, _, _, _⟩ _ _ _; first | refine Bo hG Y Y Y ?_ | refine Aj 0 hG Y Y Y Y ?_ | refine Aj 1 hG Y Y Y Y ?_ | refine Aj 2 hG Y Y Y Y ?_)
      | (show AOp _ _ ⟨_, .indexAddr _ _ _, _, _, _, _⟩ _ _ _; first | refine Bn hG Y Y Y Y Y Y Y (by omega) ?_ | refine Bp hG Y Y Y Y Y Y Y (by omega) ?_ | refine r_idx hG Y Y ?_)
      | (show AOp _ _ ⟨_, .pick _ _ _, _, _, _, _⟩ _ _ _; refine r_pick hG Y Y Y ?_)
      | (show AOp _ _ ⟨_, .unOp _ _ _, _, _, _, _⟩ _ _ _; refine r_not hG Y Y Y ?_)
      | (show AOp _ _ ⟨_, .box _ _, _, _, _, _⟩ _ _ _; refine r_box hG Y Y Y (fun i => ?_))
      | (show AOp _ _ ⟨_, .alloc _, _, _, _, _⟩ _ _ _; refine Bg hG Y Y (fun i => ?_))
      | (show AOp _ _ ⟨_, .store _ _ _, _, _, _, _⟩ _ _ _; first | refine Ax 0 hG Y Y Y Y Y Y Y ?_ | refine Ax 1 hG Y Y Y Y Y Y Y ?_ | refine Ax 2 hG Y Y Y Y Y Y Y ?_)
      | (show AOp _ _ ⟨_, .call ⟨.value _, _, _⟩, _, _, _, _⟩ _ _ _; first | refine A7 Y Y Y Y Y (by apply hL <;> (first | assumption | omega | exact Ae _ _ | exact Ak _ | exact Am _ _ | exact Ay _ | rfl | (simp; omega))) ?_ | fail)
      | refine r_q hG Y Y Y ?_); try exact kk)
    | (show AL _ _ _ _ _ _ _ _; first | refine Bd Y Y Y ?_ | (refine Al ?_; first | show AW _ _ _ _ _ _ | show ∃ x', _ < _ ∧ _)) | (show AW _ _ (.seq _ _) _ _ _; refine Af ?_; intro Q1) | (show AW _ _ (.region _ _ false) _ _ _; refine Ad ?_; intro O1) | (show AW _ _ (.cond _ _ _) _ _ _; first | refine Ai Y ?_ | refine Ah Y ?_) | (show AW _ _ (.skip) _ _ _; refine Ag ?_; first | show AW _ _ _ _ _ _ | show ∃ x', _ < _ ∧ _) | (show AW _ _ (.block _ _) _ _ _; refine Aw ?_; intro Q1) | (show AW _ _ (.exit _) _ _ _; refine Bx ?_; first | show AW _ _ _ _ _ _ | show ∃ x', _ < _ ∧ _) | (show AW _ _ (.ret) _ _ _; refine Av ?_; try dsimp only [Ar, Aa, Ap, Ab])
    | (show DL _ _ _ _ _ _ _; refine dl_d Y Y (fun K kt kf => Aq hG Y Y Y Y Y kt kf) (fun h => ?_) (fun h => ?_))
    | (show DL _ _ _ _ _ _ _; refine dl_s Y Y Y ?_) | (show DL _ _ _ _ _ _ _; refine Bk ?_; first | show AW _ _ _ _ _ _ | show ∃ x', _ < _ ∧ _) | (show AW _ _ (.region _ _ true) _ _ _; refine A8 mix (by kernel_rfl) ?_; intro O1) | fail)
            refine ⟨⟨1, p, by omega, fun j hj => ?_⟩, by dsimp only; omega, ?_, drop_1⟩
            · obtain rfl : j = 0 := by omega
              rw [hok]; rfl
            · exact .cons rfl (.cons rfl (.cons rfl (.consW rfl (.int (by simp)) (.nil _))))
          · have e : ((j : Int) - 1).toNat = j - 1 := by omega
            by_cases c4 : (l.getD ((j : Int) - 1).toNat default).1.toNat < (l.getD j default).1.toNat
            · repeat' (first
    | ((first | (show AL _ _ _ _ _ _ _ _; refine Ac Y ?_) | (show DL _ _ _ _ _ _ _; refine' Be Y Y (fun K kk => ?_) ?_; try (show Go.Ts.T; rotate_left))); (first
      | (show AOp _ _ ⟨_, .move _, _, _, _, _⟩ _ _ _; refine Ao hG Y Y ?_)
      | (show AOp _ _ ⟨_, .assign _, _, _, _, _⟩ _ _ _; refine A1 hG Y Y ?_)
      | (show AOp _ _ ⟨_, .call ⟨.builtin .len, _, _⟩, _, _, _, _⟩ _ _ _; first | refine Bb hG Y Y Y Y ?_ | refine Bi hG Y Y Y Y Y ?_)
      | (show AOp _ _ ⟨_, .binOp .add _ _ _ _, _, _, _, _⟩ _ _ _; first | refine Az hG Y Y Y Y Y (by omega) ?_)
      | (show AOp _ _ ⟨_, .binOp .sub _ _ _ _, _, _, _, _⟩ _ _ _; first | refine Az hG Y Y Y Y Y (by omega) ?_)
      | (show AOp _ _ ⟨_, .binOp _ _ _ _ _, _, _, _, _⟩ _ _ _; first | refine Au hG Y Y Y Y Y (by omega) ?_ | refine As hG Y Y Y Y Y (by omega) ?_ | ((fail_if_success have := kk); refine Aq hG Y Y Y Y Y (fun h => ?_) (fun h => ?_)))
      | (show AOp _ _ ⟨_, .load _ _, _, _, _, _⟩ _ _ _; first | refine Bo hG Y Y Y ?_ | refine Aj 0 hG Y Y Y Y ?_ | refine Aj 1 hG Y Y Y Y ?_ | refine Aj 2 hG Y Y Y Y ?_)
      | (show AOp _ _ ⟨_, .indexAddr _ _ _, _, _, _, _⟩ _ _ _; first | refine Bn hG Y Y Y Y Y Y Y (by omega) ?_ | refine Bp hG Y Y Y Y Y Y Y (by omega) ?_ | refine r_idx hG Y Y ?_)
      | (show AOp _ _ ⟨_, .pick _ _ _, _, _, _, _⟩ _ _ _; refine r_pick hG Y Y Y ?_)
      | (show AOp _ _ ⟨_, .unOp _ _ _, _, _, _, _⟩ _ _ _; refine r_not hG Y Y Y ?_)
      | (show AOp _ _ ⟨_, .box _ _, _, _, _, _⟩ _ _ _; refine r_box hG Y Y Y (fun i => ?_))
      | (show AOp _ _ ⟨_, .alloc _, _, _, _, _⟩ _ _ _; refine Bg hG Y Y (fun i => ?_))
      | (show AOp _ _ ⟨_, .store _ _ _, _, _, _, _⟩ _ _ _; first | refine Ax 0 hG Y Y Y Y Y Y Y ?_ | refine Ax 1 hG Y Y Y Y Y Y Y ?_ | refine Ax 2 hG Y Y Y Y Y Y Y ?_)
      | (show AOp _ _ ⟨_, .call ⟨.value _, _, _⟩, _, _, _, _⟩ _ _ _; first | refine A7 Y Y Y Y Y (by apply hL <;> (first | assumption | omega | exact Ae _ _ | exact Ak _ | exact Am _ _ | exact Ay _ | rfl | (simp; omega))) ?_ | fail)
      | refine r_q hG Y Y Y ?_); try exact kk)
    | (show AL _ _ _ _ _ _ _ _; first | refine Bd Y Y Y ?_ | (refine Al ?_; first | show AW _ _ _ _ _ _ | show ∃ x', _ < _ ∧ _)) | (show AW _ _ (.seq _ _) _ _ _; refine Af ?_; intro Q1) | (show AW _ _ (.region _ _ false) _ _ _; refine Ad ?_; intro O1) | (show AW _ _ (.cond _ _ _) _ _ _; first | refine Ai Y ?_ | refine Ah Y ?_) | (show AW _ _ (.skip) _ _ _; refine Ag ?_; first | show AW _ _ _ _ _ _ | show ∃ x', _ < _ ∧ _) | (show AW _ _ (.block _ _) _ _ _; refine Aw ?_; intro Q1) | (show AW _ _ (.exit _) _ _ _; refine Bx ?_; first | show AW _ _ _ _ _ _ | show ∃ x', _ < _ ∧ _) | (show AW _ _ (.ret) _ _ _; refine Av ?_; try dsimp only [Ar, Aa, Ap, Ab])
    | (show DL _ _ _ _ _ _ _; refine dl_d Y Y (fun K kt kf => Aq hG Y Y Y Y Y kt kf) (fun h => ?_) (fun h => ?_))
    | (show DL _ _ _ _ _ _ _; refine dl_s Y Y Y ?_) | (show DL _ _ _ _ _ _ _; refine Bk ?_; first | show AW _ _ _ _ _ _ | show ∃ x', _ < _ ∧ _) | (show AW _ _ (.region _ _ true) _ _ _; refine A8 mix (by kernel_rfl) ?_; intro O1) | fail)
              rw [e] at c4
              refine ⟨⟨j + 1, p, by omega, fun q hq => ?_⟩, by dsimp only; omega, ?_, drop_1⟩
              · rcases Nat.lt_succ_iff_lt_or_eq.1 hq with h | rfl
                · exact hn q h
                · rw [hok, decide_eq_true c4]; simp
              · exact .cons rfl (.cons rfl (.cons rfl (.consW rfl (.int (by simp)) (.nil _))))
            · have hf := mayLab_no hjl (by rw [hok, ← e, decide_eq_false c4, decide_eq_false c3]; rfl)
              repeat' (first
    | ((first | (show AL _ _ _ _ _ _ _ _; refine Ac Y ?_) | (show DL _ _ _ _ _ _ _; refine' Be Y Y (fun K kk => ?_) ?_; try (show Go.Ts.T; rotate_left))); (first
      | (show AOp _ _ ⟨_, .move _, _, _, _, _⟩ _ _ _; refine Ao hG Y Y ?_)
      | (show AOp _ _ ⟨_, .assign _, _, _, _, _⟩ _ _ _; refine A1 hG Y Y ?_)
      | (show AOp _ _ ⟨_, .call ⟨.builtin .len, _, _⟩, _, _, _, _⟩ _ _ _; first | refine Bb hG Y Y Y Y ?_ | refine Bi hG Y Y Y Y Y ?_)
      | (show AOp _ _ ⟨_, .binOp .add _ _ _ _, _, _, _, _⟩ _ _ _; first | refine Az hG Y Y Y Y Y (by omega) ?_)
      | (show AOp _ _ ⟨_, .binOp .sub _ _ _ _, _, _, _, _⟩ _ _ _; first | refine Az hG Y Y Y Y Y (by omega) ?_)
      | (show AOp _ _ ⟨_, .binOp _ _ _ _ _, _, _, _, _⟩ _ _ _; first | refine Au hG Y Y Y Y Y (by omega) ?_ | refine As hG Y Y Y Y Y (by omega) ?_ | ((fail_if_success have := kk); refine Aq hG Y Y Y Y Y (fun h => ?_) (fun h => ?_)))
      | (show AOp _ _ ⟨_, .load _ _, _, _, _, _⟩ _ _ _; first | refine Bo hG Y Y Y ?_ | refine Aj 0 hG Y Y Y Y ?_ | refine Aj 1 hG Y Y Y Y ?_ | refine Aj 2 hG Y Y Y Y ?_)
      | (show AOp _ _ ⟨_, .indexAddr _ _ _, _, _, _, _⟩ _ _ _; first | refine Bn hG Y Y Y Y Y Y Y (by omega) ?_ | refine Bp hG Y Y Y Y Y Y Y (by omega) ?_ | refine r_idx hG Y Y ?_)
      | (show AOp _ _ ⟨_, .pick _ _ _, _, _, _, _⟩ _ _ _; refine r_pick hG Y Y Y ?_)
      | (show AOp _ _ ⟨_, .unOp _ _ _, _, _, _, _⟩ _ _ _; refine r_not hG Y Y Y ?_)
      | (show AOp _ _ ⟨_, .box _ _, _, _, _, _⟩ _ _ _; refine r_box hG Y Y Y (fun i => ?_))
      | (show AOp _ _ ⟨_, .alloc _, _, _, _, _⟩ _ _ _; refine Bg hG Y Y (fun i => ?_))
      | (show AOp _ _ ⟨_, .store _ _ _, _, _, _, _⟩ _ _ _; first | refine Ax 0 hG Y Y Y Y Y Y Y ?_ | refine Ax 1 hG Y Y Y Y Y Y Y ?_ | refine Ax 2 hG Y Y Y Y Y Y Y ?_)
      | (show AOp _ _ ⟨_, .call ⟨.value _, _, _⟩, _, _, _, _⟩ _ _ _; first | refine A7 Y Y Y Y Y (by apply hL <;> (first | assumption | omega | exact Ae _ _ | exact Ak _ | exact Am _ _ | exact Ay _ | rfl | (simp; omega))) ?_ | fail)
      | refine r_q hG Y Y Y ?_); try exact kk)
    | (show AL _ _ _ _ _ _ _ _; first | refine Bd Y Y Y ?_ | (refine Al ?_; first | show AW _ _ _ _ _ _ | show ∃ x', _ < _ ∧ _)) | (show AW _ _ (.seq _ _) _ _ _; refine Af ?_; intro Q1) | (show AW _ _ (.region _ _ false) _ _ _; refine Ad ?_; intro O1) | (show AW _ _ (.cond _ _ _) _ _ _; first | refine Ai Y ?_ | refine Ah Y ?_) | (show AW _ _ (.skip) _ _ _; refine Ag ?_; first | show AW _ _ _ _ _ _ | show ∃ x', _ < _ ∧ _) | (show AW _ _ (.block _ _) _ _ _; refine Aw ?_; intro Q1) | (show AW _ _ (.exit _) _ _ _; refine Bx ?_; first | show AW _ _ _ _ _ _ | show ∃ x', _ < _ ∧ _) | (show AW _ _ (.ret) _ _ _; refine Av ?_; try dsimp only [Ar, Aa, Ap, Ab])
    | (show DL _ _ _ _ _ _ _; refine dl_d Y Y (fun K kt kf => Aq hG Y Y Y Y Y kt kf) (fun h => ?_) (fun h => ?_))
    | (show DL _ _ _ _ _ _ _; refine dl_s Y Y Y ?_) | (show DL _ _ _ _ _ _ _; refine Bk ?_; first | show AW _ _ _ _ _ _ | show ∃ x', _ < _ ∧ _) | (show AW _ _ (.region _ _ true) _ _ _; refine A8 mix (by kernel_rfl) ?_; intro O1) | fail)
              exact A9 (A2 rfl A3) (.eq (by rw [hf]; rfl)) rfl
      · rw [decide_eq_false c1] at hL hok
        have hf := mayLab_no hjl (by rw [hok]; rfl)
        repeat' (first
    | ((first | (show AL _ _ _ _ _ _ _ _; refine Ac Y ?_) | (show DL _ _ _ _ _ _ _; refine' Be Y Y (fun K kk => ?_) ?_; try (show Go.Ts.T; rotate_left))); (first
      | (show AOp _ _ ⟨_, .move _, _, _, _, _⟩ _ _ _; refine Ao hG Y Y ?_)
      | (show AOp _ _ ⟨_, .assign _, _, _, _, _⟩ _ _ _; refine A1 hG Y Y ?_)
      | (show AOp _ _ ⟨_, .call ⟨.builtin .len, _, _⟩, _, _, _, _⟩ _ _ _; first | refine Bb hG Y Y Y Y ?_ | refine Bi hG Y Y Y Y Y ?_)
      | (show AOp _ _ ⟨_, .binOp .add _ _ _ _, _, _, _, _⟩ _ _ _; first | refine Az hG Y Y Y Y Y (by omega) ?_)
      | (show AOp _ _ ⟨_, .binOp .sub _ _ _ _, _, _, _, _⟩ _ _ _; first | refine Az hG Y Y Y Y Y (by omega) ?_)
      | (show AOp _ _ ⟨_, .binOp _ _ _ _ _, _, _, _, _⟩ _ _ _; first | refine Au hG Y Y Y Y Y (by omega) ?_ | refine As hG Y Y Y Y Y (by omega) ?_ | ((fail_if_success have := kk); refine Aq hG Y Y Y Y Y (fun h => ?_) (fun h => ?_)))
      | (show AOp _ _ ⟨_, .load _ _, _, _, _, _⟩ _ _ _; first | refine Bo hG Y Y Y ?_ | refine Aj 0 hG Y Y Y Y ?_ | refine Aj 1 hG Y Y Y Y ?_ | refine Aj 2 hG Y Y Y Y ?_)
      | (show AOp _ _ ⟨_, .indexAddr _ _ _, _, _, _, _⟩ _ _ _; first | refine Bn hG Y Y Y Y Y Y Y (by omega) ?_ | refine Bp hG Y Y Y Y Y Y Y (by omega) ?_ | refine r_idx hG Y Y ?_)
      | (show AOp _ _ ⟨_, .pick _ _ _, _, _, _, _⟩ _ _ _; refine r_pick hG Y Y Y ?_)
      | (show AOp _ _ ⟨_, .unOp _ _ _, _, _, _, _⟩ _ _ _; refine r_not hG Y Y Y ?_)
      | (show AOp _ _ ⟨_, .box _ _, _, _, _, _⟩ _ _ _; refine r_box hG Y Y Y (fun i => ?_))
      | (show AOp _ _ ⟨_, .alloc _, _, _, _, _⟩ _ _ _; refine Bg hG Y Y (fun i => ?_))
      | (show AOp _ _ ⟨_, .store _ _ _, _, _, _, _⟩ _ _ _; first | refine Ax 0 hG Y Y Y Y Y Y Y ?_ | refine Ax 1 hG Y Y Y Y Y Y Y ?_ | refine Ax 2 hG Y Y Y Y Y Y Y ?_)
      | (show AOp _ _ ⟨_, .call ⟨.value _, _, _⟩, _, _, _, _⟩ _ _ _; first | refine A7 Y Y Y Y Y (by apply hL <;> (first | assumption | omega | exact Ae _ _ | exact Ak _ | exact Am _ _ | exact Ay _ | rfl | (simp; omega))) ?_ | fail)
      | refine r_q hG Y Y Y ?_); try exact kk)
    | (show AL _ _ _ _ _ _ _ _; first | refine Bd Y Y Y ?_ | (refine Al ?_; first | show AW _ _ _ _ _ _ | show ∃ x', _ < _ ∧ _)) | (show AW _ _ (.seq _ _) _ _ _; refine Af ?_; intro Q1) | (show AW _ _ (.region _ _ false) _ _ _; refine Ad ?_; intro O1) | (show AW _ _ (.cond _ _ _) _ _ _; first | refine Ai Y ?_ | refine Ah Y ?_) | (show AW _ _ (.skip) _ _ _; refine Ag ?_; first | show AW _ _ _ _ _ _ | show ∃ x', _ < _ ∧ _) | (show AW _ _ (.block _ _) _ _ _; refine Aw ?_; intro Q1) | (show AW _ _ (.exit _) _ _ _; refine Bx ?_; first | show AW _ _ _ _ _ _ | show ∃ x', _ < _ ∧ _) | (show AW _ _ (.ret) _ _ _; refine Av ?_; try dsimp only [Ar, Aa, Ap, Ab])
    | (show DL _ _ _ _ _ _ _; refine dl_d Y Y (fun K kt kf => Aq hG Y Y Y Y Y kt kf) (fun h => ?_) (fun h => ?_))
    | (show DL _ _ _ _ _ _ _; refine dl_s Y Y Y ?_) | (show DL _ _ _ _ _ _ _; refine Bk ?_; first | show AW _ _ _ _ _ _ | show ∃ x', _ < _ ∧ _) | (show AW _ _ (.region _ _ true) _ _ _; refine A8 mix (by kernel_rfl) ?_; intro O1) | fail)
        exact A9 (A2 rfl A3) (.eq (by rw [hf]; rfl)) rfl
    · obtain rfl : j = l.length := by omega
      repeat' (first
    | ((first | (show AL _ _ _ _ _ _ _ _; refine Ac Y ?_) | (show DL _ _ _ _ _ _ _; refine' Be Y Y (fun K kk => ?_) ?_; try (show Go.Ts.T; rotate_left))); (first
      | (show AOp _ _ ⟨_, .move _, _, _, _, _⟩ _ _ _; refine Ao hG Y Y ?_)
      | (show AOp _ _ ⟨_, .assign _, _, _, _, _⟩ _ _ _; refine A1 hG Y Y ?_)
      | (show AOp _ _ ⟨_, .call ⟨.builtin .len, _, _⟩, _, _, _, _⟩ _ _ _; first | refine Bb hG Y Y Y Y ?_ | refine Bi hG Y Y Y Y Y ?_)
      | (show AOp _ _ ⟨_, .binOp .add _ _ _ _, _, _, _, _⟩ _ _ _; first | refine Az hG Y Y Y Y Y (by omega) ?_)
      | (show AOp _ _ ⟨_, .binOp .sub _ _ _ _, _, _, _, _⟩ _ _ _; first | refine Az hG Y Y Y Y Y (by omega) ?_)
      | (show AOp _ _ ⟨_, .binOp _ _ _ _ _, _, _, _, _⟩ _ _ _; first | refine Au hG Y Y Y Y Y (by omega) ?_ | refine As hG Y Y Y Y Y (by omega) ?_ | ((fail_if_success have := kk); refine Aq hG Y Y Y Y Y (fun h => ?_) (fun h => ?_)))
      | (show AOp _ _ ⟨_, .load _ _, _, _, _, _⟩ _ _ _; first | refine Bo hG Y Y Y ?_ | refine Aj 0 hG Y Y Y Y ?_ | refine Aj 1 hG Y Y Y Y ?_ | refine Aj 2 hG Y Y Y Y ?_)
      | (show AOp _ _ ⟨_, .indexAddr _ _ _, _, _, _, _⟩ _ _ _; first | refine Bn hG Y Y Y Y Y Y Y (by omega) ?_ | refine Bp hG Y Y Y Y Y Y Y (by omega) ?_ | refine r_idx hG Y Y ?_)
      | (show AOp _ _ ⟨_, .pick _ _ _, _, _, _, _⟩ _ _ _; refine r_pick hG Y Y Y ?_)
      | (show AOp _ _ ⟨_, .unOp _ _ _, _, _, _, _⟩ _ _ _; refine r_not hG Y Y Y ?_)
      | (show AOp _ _ ⟨_, .box _ _, _, _, _, _⟩ _ _ _; refine r_box hG Y Y Y (fun i => ?_))
      | (show AOp _ _ ⟨_, .alloc _, _, _, _, _⟩ _ _ _; refine Bg hG Y Y (fun i => ?_))
      | (show AOp _ _ ⟨_, .store _ _ _, _, _, _, _⟩ _ _ _; first | refine Ax 0 hG Y Y Y Y Y Y Y ?_ | refine Ax 1 hG Y Y Y Y Y Y Y ?_ | refine Ax 2 hG Y Y Y Y Y Y Y ?_)
      | refine r_q hG Y Y Y ?_); try exact kk)
    | (show AL _ _ _ _ _ _ _ _; first | refine Bd Y Y Y ?_ | (refine Al ?_; first | show AW _ _ _ _ _ _ | show ∃ x', _ < _ ∧ _)) | (show AW _ _ (.seq _ _) _ _ _; refine Af ?_; intro Q1) | (show AW _ _ (.region _ _ false) _ _ _; refine Ad ?_; intro O1) | (show AW _ _ (.cond _ _ _) _ _ _; first | refine Ai Y ?_ | refine Ah Y ?_) | (show AW _ _ (.skip) _ _ _; refine Ag ?_; first | show AW _ _ _ _ _ _ | show ∃ x', _ < _ ∧ _) | (show AW _ _ (.block _ _) _ _ _; refine Aw ?_; intro Q1) | (show AW _ _ (.exit _) _ _ _; refine Bx ?_; first | show AW _ _ _ _ _ _ | show ∃ x', _ < _ ∧ _) | (show AW _ _ (.ret) _ _ _; refine Av ?_; try dsimp only [Ar, Aa, Ap, Ab])
    | (show DL _ _ _ _ _ _ _; refine dl_d Y Y (fun K kt kf => Aq hG Y Y Y Y Y kt kf) (fun h => ?_) (fun h => ?_))
    | (show DL _ _ _ _ _ _ _; refine dl_s Y Y Y ?_) | (show DL _ _ _ _ _ _ _; refine Bk ?_; first | show AW _ _ _ _ _ _ | show ∃ x', _ < _ ∧ _) | (show AW _ _ (.region _ _ true) _ _ _; refine A8 mix (by kernel_rfl) ?_; intro O1) | fail)
      exact A9 (A2 rfl A3) (.eq (by rw [mayLab_yes h0.1 h0.2 hn]; rfl)) rfl
  · have hf : mayLab df l = false := by
      unfold mayLab
      by_cases g : 1 ≤ df.toNat ∧ df.toNat ≤ 4
      · rw [decide_eq_false (fun h => h0 ⟨g, h⟩)]; simp
      · rw [decide_eq_false g]; simp
    rw [hf]
    repeat' (first
    | ((first | (show AL _ _ _ _ _ _ _ _; refine Ac Y ?_) | (show DL _ _ _ _ _ _ _; refine' Be Y Y (fun K kk => ?_) ?_; try (show Go.Ts.T; rotate_left))); (first
      | (show AOp _ _ ⟨_, .move _, _, _, _, _⟩ _ _ _; refine Ao hG Y Y ?_)
      | (show AOp _ _ ⟨_, .assign _, _, _, _, _⟩ _ _ _; refine A1 hG Y Y ?_)
      | (show AOp _ _ ⟨_, .call ⟨.builtin .len, _, _⟩, _, _, _, _⟩ _ _ _; first | refine Bb hG Y Y Y Y ?_ | refine Bi hG Y Y Y Y Y ?_)
      | (show AOp _ _ ⟨_, .binOp .add _ _ _ _, _, _, _, _⟩ _ _ _; first | refine Az hG Y Y Y Y Y (by omega) ?_)
      | (show AOp _ _ ⟨_, .binOp .sub _ _ _ _, _, _, _, _⟩ _ _ _; first | refine Az hG Y Y Y Y Y (by omega) ?_)
      | (show AOp _ _ ⟨_, .binOp _ _ _ _ _, _, _, _, _⟩ _ _ _; first | refine Au hG Y Y Y Y Y (by omega) ?_ | refine As hG Y Y Y Y Y (by omega) ?_ | ((fail_if_success have := kk); refine Aq hG Y Y Y Y Y (fun h => ?_) (fun h => ?_)))
      | (show AOp _ _ ⟨_, .load _ _, _, _, _, _⟩ _ _ _; first | refine Bo hG Y Y Y ?_ | refine Aj 0 hG Y Y Y Y ?_ | refine Aj 1 hG Y Y Y Y ?_ | refine Aj 2 hG Y Y Y Y ?_)
      | (show AOp _ _ ⟨_, .indexAddr _ _ _, _, _, _, _⟩ _ _ _; first | refine Bn hG Y Y Y Y Y Y Y (by omega) ?_ | refine Bp hG Y Y Y Y Y Y Y (by omega) ?_ | refine r_idx hG Y Y ?_)
      | (show AOp _ _ ⟨_, .pick _ _ _, _, _, _, _⟩ _ _ _; refine r_pick hG Y Y Y ?_)
      | (show AOp _ _ ⟨_, .unOp _ _ _, _, _, _, _⟩ _ _ _; refine r_not hG Y Y Y ?_)
      | (show AOp _ _ ⟨_, .box _ _, _, _, _, _⟩ _ _ _; refine r_box hG Y Y Y (fun i => ?_))
      | (show AOp _ _ ⟨_, .alloc _, _, _, _, _⟩ _ _ _; refine Bg hG Y Y (fun i => ?_))
      | (show AOp _ _ ⟨_, .store _ _ _, _, _, _, _⟩ _ _ _; first | refine Ax 0 hG Y Y Y Y Y Y Y ?_ | refine Ax 1 hG Y Y Y Y Y Y Y ?_ | refine Ax 2 hG Y Y Y Y Y Y Y ?_)
      | refine r_q hG Y Y Y ?_); try exact kk)
    | (show AL _ _ _ _ _ _ _ _; first | refine Bd Y Y Y ?_ | (refine Al ?_; first | show AW _ _ _ _ _ _ | show ∃ x', _ < _ ∧ _)) | (show AW _ _ (.seq _ _) _ _ _; refine Af ?_; intro Q1) | (show AW _ _ (.region _ _ false) _ _ _; refine Ad ?_; intro O1) | (show AW _ _ (.cond _ _ _) _ _ _; first | refine Ai Y ?_ | refine Ah Y ?_) | (show AW _ _ (.skip) _ _ _; refine Ag ?_; first | show AW _ _ _ _ _ _ | show ∃ x', _ < _ ∧ _) | (show AW _ _ (.block _ _) _ _ _; refine Aw ?_; intro Q1) | (show AW _ _ (.exit _) _ _ _; refine Bx ?_; first | show AW _ _ _ _ _ _ | show ∃ x', _ < _ ∧ _) | (show AW _ _ (.ret) _ _ _; refine Av ?_; try dsimp only [Ar, Aa, Ap, Ab])
    | (show DL _ _ _ _ _ _ _; refine dl_d Y Y (fun K kt kf => Aq hG Y Y Y Y Y kt kf) (fun h => ?_) (fun h => ?_))
    | (show DL _ _ _ _ _ _ _; refine dl_s Y Y Y ?_) | (show DL _ _ _ _ _ _ _; refine Bk ?_; first | show AW _ _ _ _ _ _ | show ∃ x', _ < _ ∧ _) | (show AW _ _ (.region _ _ true) _ _ _; refine A8 mix (by kernel_rfl) ?_; intro O1) | fail)
    all_goals exact A9 (A2 rfl A3) (.refl _) rfl
structure StX (l : List PR) where
  i : Nat
  p : Nat
  k : Nat
  hi : i ≤ l.length
theorem flatP_snoc (l : List PR) (p : PR) : flatP (l ++ [p]) = flatP l ++ putP p := by simp [flatP]
theorem lcode_Put {x : T} {b : List UInt8} {df : UInt8} {l : List PR} (hx : bytesT x = some b) (hl : b.length ≤ 4294000000) (hs : l.length ≤ 70000) :
    Owns Try.prog 23 [x, .agg [bT df, .sl 2 .no (l.map pT)]] 1 ((putLab b df l).map bT) := by
  refine Owns.weak (us := [sT b, .agg [bT df, .sl 2 .no (l.map pT)]]) ?_ (wk2 (bytesT_wk hx) (.refl _))
  intro off
  refine A5 (N := 36) (rs := [.tmp 4]) hG Try.func23 rfl rfl rfl rfl rfl ?_
  have p1 := putI_le ((df.toNat : Nat) : Int) 1
  have p2 := putI_le ((l.length : Nat) : Int) 1
  repeat' (first
    | ((first | (show AL _ _ _ _ _ _ _ _; refine Ac Y ?_) | (show DL _ _ _ _ _ _ _; refine' Be Y Y (fun K kk => ?_) ?_; try (show Go.Ts.T; rotate_left))); (first
      | (show AOp _ _ ⟨_, .move _, _, _, _, _⟩ _ _ _; refine Ao hG Y Y ?_)
      | (show AOp _ _ ⟨_, .assign _, _, _, _, _⟩ _ _ _; refine A1 hG Y Y ?_)
      | (show AOp _ _ ⟨_, .call ⟨.builtin .len, _, _⟩, _, _, _, _⟩ _ _ _; first | refine Bb hG Y Y Y Y ?_ | refine Bi hG Y Y Y Y Y ?_)
      | (show AOp _ _ ⟨_, .binOp .add _ _ _ _, _, _, _, _⟩ _ _ _; first | refine Az hG Y Y Y Y Y (by omega) ?_)
      | (show AOp _ _ ⟨_, .binOp _ _ _ _ _, _, _, _, _⟩ _ _ _; first | refine Au hG Y Y Y Y Y (by omega) ?_ | refine As hG Y Y Y Y Y (by omega) ?_ | ((fail_if_success have := kk); refine Aq hG Y Y Y Y Y (fun h => ?_) (fun h => ?_)))
      | (show AOp _ _ ⟨_, .load _ _, _, _, _, _⟩ _ _ _; first | refine Bo hG Y Y Y ?_ | refine Aj 0 hG Y Y Y Y ?_ | refine Aj 1 hG Y Y Y Y ?_ | refine Aj 2 hG Y Y Y Y ?_)
      | (show AOp _ _ ⟨_, .indexAddr _ _ _, _, _, _, _⟩ _ _ _; first | refine Bn hG Y Y Y Y Y Y Y (by omega) ?_ | refine Bp hG Y Y Y Y Y Y Y (by omega) ?_ | refine r_idx hG Y Y ?_)
      | (show AOp _ _ ⟨_, .convert _ _ _, _, _, _, _⟩ _ _ _; first | refine r_cv8 hG Y Y Y Y Y Y ?_ | refine r_cv16 hG Y Y Y Y Y Y ?_ | refine Bs hG Y Y Y Y Y (by omega) ?_ | refine Bc hG Y Y Y Y Y ?_)
      | (show AOp _ _ ⟨_, .box _ _, _, _, _, _⟩ _ _ _; refine r_box hG Y Y Y (fun i => ?_))
      | (show AOp _ _ ⟨_, .alloc _, _, _, _, _⟩ _ _ _; refine Bg hG Y Y (fun i => ?_))
      | (show AOp _ _ ⟨_, .store _ _ _, _, _, _, _⟩ _ _ _; first | refine Ax 0 hG Y Y Y Y Y Y Y ?_ | refine Ax 1 hG Y Y Y Y Y Y Y ?_ | refine Ax 2 hG Y Y Y Y Y Y Y ?_)
      | refine r_q hG Y Y Y ?_); try exact kk)
    | (show AL _ _ _ _ _ _ _ _; first | refine Bd Y Y Y ?_ | (refine Al ?_; first | show AW _ _ _ _ _ _ | show ∃ x', _ < _ ∧ _)) | (show AW _ _ (.seq _ _) _ _ _; refine Af ?_; intro Q1) | (show AW _ _ (.region _ _ false) _ _ _; refine Ad ?_; intro O1) | (show AW _ _ (.cond _ _ _) _ _ _; first | refine Ai Y ?_ | refine Ah Y ?_) | (show AW _ _ (.skip) _ _ _; refine Ag ?_; first | show AW _ _ _ _ _ _ | show ∃ x', _ < _ ∧ _) | (show AW _ _ (.block _ _) _ _ _; refine Aw ?_; intro Q1) | (show AW _ _ (.exit _) _ _ _; refine Bx ?_; first | show AW _ _ _ _ _ _ | show ∃ x', _ < _ ∧ _) | (show AW _ _ (.ret) _ _ _; refine Av ?_; try dsimp only [Ar, Aa, Ap, Ab])
    | (show DL _ _ _ _ _ _ _; refine dl_d Y Y (fun K kt kf => Aq hG Y Y Y Y Y kt kf) (fun h => ?_) (fun h => ?_))
    | (show DL _ _ _ _ _ _ _; refine dl_s Y Y Y ?_) | (show DL _ _ _ _ _ _ _; refine Bk ?_; first | show AW _ _ _ _ _ _ | show ∃ x', _ < _ ∧ _) | (show AW _ _ (.region _ _ true) _ _ _; (fail_if_success show AW _ _ (.region 1 _ _) _ _ _); refine A8 mix (by kernel_rfl) ?_; intro O1) | fail)
  refine aw_drawE' (m := 10) [4, 9] (fun σ => ∃ R, σ = ⟨[(i, .cells [bT df, .sl 2 .no (l.map pT)])], R, off, none⟩) mix rfl (by repeat (first | exact Sp.zero _ | apply Sp.succ)) ?_; intro O1 F1 Z1 Q2
  repeat' (first
    | (refine' dq_cons Y Y Y (fun σ hσ K kk => ?_) ?_; (try (show Go.Ts.T; rotate_left)); (obtain ⟨R, rfl⟩ := hσ); (first
      | (show AOp _ _ ⟨_, .move _, _, _, _, _⟩ _ _ _; refine Ao hG Y Y ?_)
      | (show AOp _ _ ⟨_, .assign _, _, _, _, _⟩ _ _ _; refine A1 hG Y Y ?_)
      | (show AOp _ _ ⟨_, .call ⟨.builtin .len, _, _⟩, _, _, _, _⟩ _ _ _; first | refine Bb hG Y Y Y Y ?_ | refine Bi hG Y Y Y Y Y ?_)
      | (show AOp _ _ ⟨_, .binOp .add _ _ _ _, _, _, _, _⟩ _ _ _; first | refine Az hG Y Y Y Y Y (by omega) ?_)
      | (show AOp _ _ ⟨_, .binOp _ _ _ _ _, _, _, _, _⟩ _ _ _; first | refine Au hG Y Y Y Y Y (by omega) ?_ | refine As hG Y Y Y Y Y (by omega) ?_)
      | (show AOp _ _ ⟨_, .load _ _, _, _, _, _⟩ _ _ _; first | refine Bo hG Y Y Y ?_ | refine Aj 0 hG Y Y Y Y ?_ | refine Aj 1 hG Y Y Y Y ?_ | refine Aj 2 hG Y Y Y Y ?_)
      | (show AOp _ _ ⟨_, .indexAddr _ _ _, _, _, _, _⟩ _ _ _; first | refine Bn hG Y Y Y Y Y Y Y (by omega) ?_ | refine Bp hG Y Y Y Y Y Y Y (by omega) ?_ | refine r_idx hG Y Y ?_)
      | (show AOp _ _ ⟨_, .convert _ _ _, _, _, _, _⟩ _ _ _; first | refine r_cv8 hG Y Y Y Y Y Y ?_ | refine r_cv16 hG Y Y Y Y Y Y ?_ | refine Bs hG Y Y Y Y Y (by omega) ?_ | refine Bc hG Y Y Y Y Y ?_)
      | (show AOp _ _ ⟨_, .box _ _, _, _, _, _⟩ _ _ _; refine r_box hG Y Y Y (fun i => ?_))
      | (show AOp _ _ ⟨_, .alloc _, _, _, _, _⟩ _ _ _; refine Bg hG Y Y (fun i => ?_))
      | (show AOp _ _ ⟨_, .store _ _ _, _, _, _, _⟩ _ _ _; first | refine Ax 0 hG Y Y Y Y Y Y Y ?_ | refine Ax 1 hG Y Y Y Y Y Y Y ?_ | refine Ax 2 hG Y Y Y Y Y Y Y ?_)
      | (show AOp _ _ ⟨_, .call ⟨.value _, _, _⟩, _, _, _, _⟩ _ _ _; first | ((fail_if_success have := kk); refine r_owns Y Y Y Y Y (by apply num_Put <;> (first | assumption | omega | exact Ae _ _ | exact Ak _ | exact Am _ _ | exact Ay _ | rfl | (simp; omega))) (fun k => ?_)) | (have := kk; clear this; refine A7 Y Y Y Y Y (Owns.pure (by apply num_Put <;> (first | assumption | omega | exact Ae _ _ | exact Ak _ | exact Am _ _ | exact Ay _ | rfl | (simp; omega)))) ?_) | fail)
      | refine r_q hG Y Y Y ?_); exact kk)
    | refine dq_d Y Y Y (fun σ hσ K kt kf => by obtain ⟨R, rfl⟩ := hσ; exact Aq hG Y Y Y Y Y kt kf) (fun h => ?_) (fun h => ?_)
    | refine dq_d Y Y Y (fun σ hσ K kt kf => by obtain ⟨R, rfl⟩ := hσ; exact r_str hG Y Y Y Y kt kf) (fun h => ?_) (fun h => ?_)
    | refine dq_s Y Y Y Y ?_ | refine dq_e Y ?_ | (refine dq_nil ?_; show EL _ _ _ _ _ _ _ _ _) | refine el_s ⟨_, Y⟩ Y Y Y Y ?_
    | ((first | refine el_cons ⟨_, Y⟩ Y Y Y (fun K ke => ?_) | refine el_consN ⟨_, Y⟩ Y Y Y (fun K ke => ?_)); (first
      | (show AOp _ _ ⟨_, .move _, _, _, _, _⟩ _ _ _; refine Ao hG Y Y ?_)
      | (show AOp _ _ ⟨_, .assign _, _, _, _, _⟩ _ _ _; refine A1 hG Y Y ?_)
      | (show AOp _ _ ⟨_, .call ⟨.builtin .len, _, _⟩, _, _, _, _⟩ _ _ _; first | refine Bb hG Y Y Y Y ?_ | refine Bi hG Y Y Y Y Y ?_)
      | (show AOp _ _ ⟨_, .binOp .add _ _ _ _, _, _, _, _⟩ _ _ _; first | refine Az hG Y Y Y Y Y (by omega) ?_)
      | (show AOp _ _ ⟨_, .binOp _ _ _ _ _, _, _, _, _⟩ _ _ _; first | refine Au hG Y Y Y Y Y (by omega) ?_ | refine As hG Y Y Y Y Y (by omega) ?_)
      | (show AOp _ _ ⟨_, .load _ _, _, _, _, _⟩ _ _ _; first | refine Bo hG Y Y Y ?_ | refine Aj 0 hG Y Y Y Y ?_ | refine Aj 1 hG Y Y Y Y ?_ | refine Aj 2 hG Y Y Y Y ?_)
      | (show AOp _ _ ⟨_, .indexAddr _ _ _, _, _, _, _⟩ _ _ _; first | refine Bn hG Y Y Y Y Y Y Y (by omega) ?_ | refine Bp hG Y Y Y Y Y Y Y (by omega) ?_ | refine r_idx hG Y Y ?_)
      | (show AOp _ _ ⟨_, .convert _ _ _, _, _, _, _⟩ _ _ _; first | refine r_cv8 hG Y Y Y Y Y Y ?_ | refine r_cv16 hG Y Y Y Y Y Y ?_ | refine Bs hG Y Y Y Y Y (by omega) ?_ | refine Bc hG Y Y Y Y Y ?_)
      | (show AOp _ _ ⟨_, .box _ _, _, _, _, _⟩ _ _ _; refine r_box hG Y Y Y (fun i => ?_))
      | (show AOp _ _ ⟨_, .alloc _, _, _, _, _⟩ _ _ _; refine Bg hG Y Y (fun i => ?_))
      | (show AOp _ _ ⟨_, .store _ _ _, _, _, _, _⟩ _ _ _; first | refine Ax 0 hG Y Y Y Y Y Y Y ?_ | refine Ax 1 hG Y Y Y Y Y Y Y ?_ | refine Ax 2 hG Y Y Y Y Y Y Y ?_)
      | (show AOp _ _ ⟨_, .call ⟨.value _, _, _⟩, _, _, _, _⟩ _ _ _; first | ((fail_if_success have := kk); refine r_owns Y Y Y Y Y (by apply num_Put <;> (first | assumption | omega | exact Ae _ _ | exact Ak _ | exact Am _ _ | exact Ay _ | rfl | (simp; omega))) (fun k => ?_)) | (have := kk; clear this; refine A7 Y Y Y Y Y (Owns.pure (by apply num_Put <;> (first | assumption | omega | exact Ae _ _ | exact Ak _ | exact Am _ _ | exact Ay _ | rfl | (simp; omega)))) ?_) | fail)
      | refine r_q hG Y Y Y ?_); refine ke _ _ ?_)
    | (refine el_nil ⟨_, Y⟩ ?_; show AL _ _ _ _ _ _ _ _) | fail)
  repeat' (first
    | ((first | (show AL _ _ _ _ _ _ _ _; refine Ac Y ?_) | (show DL _ _ _ _ _ _ _; refine' Be Y Y (fun K kk => ?_) ?_; try (show Go.Ts.T; rotate_left))); (first
      | (show AOp _ _ ⟨_, .move _, _, _, _, _⟩ _ _ _; refine Ao hG Y Y ?_)
      | (show AOp _ _ ⟨_, .assign _, _, _, _, _⟩ _ _ _; refine A1 hG Y Y ?_)
      | (show AOp _ _ ⟨_, .call ⟨.builtin .len, _, _⟩, _, _, _, _⟩ _ _ _; first | refine Bb hG Y Y Y Y ?_ | refine Bi hG Y Y Y Y Y ?_)
      | (show AOp _ _ ⟨_, .binOp .add _ _ _ _, _, _, _, _⟩ _ _ _; first | refine Az hG Y Y Y Y Y (by omega) ?_)
      | (show AOp _ _ ⟨_, .binOp _ _ _ _ _, _, _, _, _⟩ _ _ _; first | refine Au hG Y Y Y Y Y (by omega) ?_ | refine As hG Y Y Y Y Y (by omega) ?_ | ((fail_if_success have := kk); refine Aq hG Y Y Y Y Y (fun h => ?_) (fun h => ?_)))
      | (show AOp _ _ ⟨_, .load _ _, _, _, _, _⟩ _ _ _; first | refine Bo hG Y Y Y ?_ | refine Aj 0 hG Y Y Y Y ?_ | refine Aj 1 hG Y Y Y Y ?_ | refine Aj 2 hG Y Y Y Y ?_)
      | (show AOp _ _ ⟨_, .indexAddr _ _ _, _, _, _, _⟩ _ _ _; first | refine Bn hG Y Y Y Y Y Y Y (by omega) ?_ | refine Bp hG Y Y Y Y Y Y Y (by omega) ?_ | refine r_idx hG Y Y ?_)
      | (show AOp _ _ ⟨_, .convert _ _ _, _, _, _, _⟩ _ _ _; first | refine r_cv8 hG Y Y Y Y Y Y ?_ | refine r_cv16 hG Y Y Y Y Y Y ?_ | refine Bs hG Y Y Y Y Y (by omega) ?_ | refine Bc hG Y Y Y Y Y ?_)
      | (show AOp _ _ ⟨_, .box _ _, _, _, _, _⟩ _ _ _; refine r_box hG Y Y Y (fun i => ?_))
      | (show AOp _ _ ⟨_, .alloc _, _, _, _, _⟩ _ _ _; refine Bg hG Y Y (fun i => ?_))
      | (show AOp _ _ ⟨_, .store _ _ _, _, _, _, _⟩ _ _ _; first | refine Ax 0 hG Y Y Y Y Y Y Y ?_ | refine Ax 1 hG Y Y Y Y Y Y Y ?_ | refine Ax 2 hG Y Y Y Y Y Y Y ?_)
      | refine r_q hG Y Y Y ?_); try exact kk)
    | (show AL _ _ _ _ _ _ _ _; first | refine Bd Y Y Y ?_ | (refine Al ?_; first | show AW _ _ _ _ _ _ | show ∃ x', _ < _ ∧ _)) | (show AW _ _ (.seq _ _) _ _ _; refine Af ?_; intro Q1) | (show AW _ _ (.region _ _ false) _ _ _; refine Ad ?_; intro O1) | (show AW _ _ (.cond _ _ _) _ _ _; first | refine Ai Y ?_ | refine Ah Y ?_) | (show AW _ _ (.skip) _ _ _; refine Ag ?_; first | show AW _ _ _ _ _ _ | show ∃ x', _ < _ ∧ _) | (show AW _ _ (.block _ _) _ _ _; refine Aw ?_; intro Q1) | (show AW _ _ (.exit _) _ _ _; refine Bx ?_; first | show AW _ _ _ _ _ _ | show ∃ x', _ < _ ∧ _) | (show AW _ _ (.ret) _ _ _; refine Av ?_; try dsimp only [Ar, Aa, Ap, Ab])
    | (show DL _ _ _ _ _ _ _; refine dl_d Y Y (fun K kt kf => Aq hG Y Y Y Y Y kt kf) (fun h => ?_) (fun h => ?_))
    | (show DL _ _ _ _ _ _ _; refine dl_s Y Y Y ?_) | (show DL _ _ _ _ _ _ _; refine Bk ?_; first | show AW _ _ _ _ _ _ | show ∃ x', _ < _ ∧ _) | (show AW _ _ (.region _ _ true) _ _ _; refine A8 mix (by kernel_rfl) ?_; intro O1) | fail)
  refine aw_loop (X := StX l) (fun x => [(19, .sl 2 .no (l.map pT)), (20, .int .i64 l.length), (21, .int .i64 x.i), (5, .sl 1 (.tok x.k) ((b ++ putI df.toNat 1 ++ putI l.length 1 ++ flatP (l.take x.i)).map bT))]) (fun x => ⟨[(x.p, .cells [bT df, .sl 2 .no (l.map pT)])], [x.k], off, none⟩) (fun x => l.length - x.i) ⟨0, i, _, Nat.zero_le _⟩ ?_ drop_tok' ?_
  · exact .cons rfl (.cons rfl (.consW rfl (.int rfl) (.consW rfl (.eq (by simp [flatP])) (.nil _))))
  rintro ⟨j, p, k, hj⟩
  dsimp only
  by_cases hjl : j < l.length
  · have hf : flatP (l.take (j + 1)) = flatP (l.take j) ++ putP (l.getD j default) := by rw [take_getD l j hjl, flatP_snoc]
    have hfl := flatP_len (l.take j)
    rw [List.length_take] at hfl
    have hlen : (b ++ putI df.toNat 1 ++ putI l.length 1 ++ flatP (l.take j)).length ≤ 4294500000 := by simp only [List.length_append]; omega
    have p3 := putI_le (((l.getD j default).1.toNat : Nat) : Int) 2
    have v1 := (l.getD j default).1.toNat_lt
    have v2 := (l.getD j default).2.toNat_lt
    generalize hz : b ++ putI df.toNat 1 ++ putI l.length 1 ++ flatP (l.take j) = z at *
    have hz2 : (z ++ putI ((l.getD j default).1.toNat : Int) 2).length ≤ 4294967000 := by rw [List.length_append]; omega
    repeat' (first
    | ((first | (show AL _ _ _ _ _ _ _ _; refine Ac Y ?_) | (show DL _ _ _ _ _ _ _; refine' Be Y Y (fun K kk => ?_) ?_; try (show Go.Ts.T; rotate_left))); (first
      | (show AOp _ _ ⟨_, .move _, _, _, _, _⟩ _ _ _; refine Ao hG Y Y ?_)
      | (show AOp _ _ ⟨_, .assign _, _, _, _, _⟩ _ _ _; refine A1 hG Y Y ?_)
      | (show AOp _ _ ⟨_, .call ⟨.builtin .len, _, _⟩, _, _, _, _⟩ _ _ _; first | refine Bb hG Y Y Y Y ?_ | refine Bi hG Y Y Y Y Y ?_)
      | (show AOp _ _ ⟨_, .binOp .add _ _ _ _, _, _, _, _⟩ _ _ _; first | refine Az hG Y Y Y Y Y (by omega) ?_)
      | (show AOp _ _ ⟨_, .binOp _ _ _ _ _, _, _, _, _⟩ _ _ _; first | refine Au hG Y Y Y Y Y (by omega) ?_ | refine As hG Y Y Y Y Y (by omega) ?_ | ((fail_if_success have := kk); refine Aq hG Y Y Y Y Y (fun h => ?_) (fun h => ?_)))
      | (show AOp _ _ ⟨_, .load _ _, _, _, _, _⟩ _ _ _; first | refine Bo hG Y Y Y ?_ | refine Aj 0 hG Y Y Y Y ?_ | refine Aj 1 hG Y Y Y Y ?_ | refine Aj 2 hG Y Y Y Y ?_)
      | (show AOp _ _ ⟨_, .indexAddr _ _ _, _, _, _, _⟩ _ _ _; first | refine Bn hG Y Y Y Y Y Y Y (by omega) ?_ | refine Bp hG Y Y Y Y Y Y Y (by omega) ?_ | refine r_idx hG Y Y ?_)
      | (show AOp _ _ ⟨_, .convert _ _ _, _, _, _, _⟩ _ _ _; first | refine r_cv8 hG Y Y Y Y Y Y ?_ | refine r_cv16 hG Y Y Y Y Y Y ?_ | refine Bs hG Y Y Y Y Y (by omega) ?_ | refine Bc hG Y Y Y Y Y ?_)
      | (show AOp _ _ ⟨_, .box _ _, _, _, _, _⟩ _ _ _; refine r_box hG Y Y Y (fun i => ?_))
      | (show AOp _ _ ⟨_, .alloc _, _, _, _, _⟩ _ _ _; refine Bg hG Y Y (fun i => ?_))
      | (show AOp _ _ ⟨_, .store _ _ _, _, _, _, _⟩ _ _ _; first | refine Ax 0 hG Y Y Y Y Y Y Y ?_ | refine Ax 1 hG Y Y Y Y Y Y Y ?_ | refine Ax 2 hG Y Y Y Y Y Y Y ?_)
      | refine r_q hG Y Y Y ?_); try exact kk)
    | (show AL _ _ _ _ _ _ _ _; first | refine Bd Y Y Y ?_ | (refine Al ?_; first | show AW _ _ _ _ _ _ | show ∃ x', _ < _ ∧ _)) | (show AW _ _ (.seq _ _) _ _ _; refine Af ?_; intro Q1) | (show AW _ _ (.region _ _ false) _ _ _; refine Ad ?_; intro O1) | (show AW _ _ (.cond _ _ _) _ _ _; first | refine Ai Y ?_ | refine Ah Y ?_) | (show AW _ _ (.skip) _ _ _; refine Ag ?_; first | show AW _ _ _ _ _ _ | show ∃ x', _ < _ ∧ _) | (show AW _ _ (.block _ _) _ _ _; refine Aw ?_; intro Q1) | (show AW _ _ (.exit _) _ _ _; refine Bx ?_; first | show AW _ _ _ _ _ _ | show ∃ x', _ < _ ∧ _) | (show AW _ _ (.ret) _ _ _; refine Av ?_; try dsimp only [Ar, Aa, Ap, Ab])
    | (show DL _ _ _ _ _ _ _; refine dl_d Y Y (fun K kt kf => Aq hG Y Y Y Y Y kt kf) (fun h => ?_) (fun h => ?_))
    | (show DL _ _ _ _ _ _ _; refine dl_s Y Y Y ?_) | (show DL _ _ _ _ _ _ _; refine Bk ?_; first | show AW _ _ _ _ _ _ | show ∃ x', _ < _ ∧ _) | (show AW _ _ (.region _ _ true) _ _ _; (fail_if_success show AW _ _ (.region 5 _ _) _ _ _); refine A8 mix (by kernel_rfl) ?_; intro O1) | fail)
    refine aw_drawE' (m := 9) [4, 8] (fun σ => ∃ R, σ = ⟨[(i, .cells [hT (l.getD j default).1, bT (l.getD j default).2]), (p, .cells [bT df, .sl 2 .no (l.map pT)])], R, off, none⟩) mix rfl (by repeat (first | exact Sp.zero _ | apply Sp.succ)) ?_; intro O1 F1 Z1 Q2
    repeat' (first
    | (refine' dq_cons Y Y Y (fun σ hσ K kk => ?_) ?_; (try (show Go.Ts.T; rotate_left)); (obtain ⟨R, rfl⟩ := hσ); (first
      | (show AOp _ _ ⟨_, .move _, _, _, _, _⟩ _ _ _; refine Ao hG Y Y ?_)
      | (show AOp _ _ ⟨_, .assign _, _, _, _, _⟩ _ _ _; refine A1 hG Y Y ?_)
      | (show AOp _ _ ⟨_, .call ⟨.builtin .len, _, _⟩, _, _, _, _⟩ _ _ _; first | refine Bb hG Y Y Y Y ?_ | refine Bi hG Y Y Y Y Y ?_)
      | (show AOp _ _ ⟨_, .binOp .add _ _ _ _, _, _, _, _⟩ _ _ _; first | refine Az hG Y Y Y Y Y (by omega) ?_)
      | (show AOp _ _ ⟨_, .binOp _ _ _ _ _, _, _, _, _⟩ _ _ _; first | refine Au hG Y Y Y Y Y (by omega) ?_ | refine As hG Y Y Y Y Y (by omega) ?_)
      | (show AOp _ _ ⟨_, .load _ _, _, _, _, _⟩ _ _ _; first | refine Bo hG Y Y Y ?_ | refine Aj 0 hG Y Y Y Y ?_ | refine Aj 1 hG Y Y Y Y ?_ | refine Aj 2 hG Y Y Y Y ?_)
      | (show AOp _ _ ⟨_, .indexAddr _ _ _, _, _, _, _⟩ _ _ _; first | refine Bn hG Y Y Y Y Y Y Y (by omega) ?_ | refine Bp hG Y Y Y Y Y Y Y (by omega) ?_ | refine r_idx hG Y Y ?_)
      | (show AOp _ _ ⟨_, .convert _ _ _, _, _, _, _⟩ _ _ _; first | refine r_cv8 hG Y Y Y Y Y Y ?_ | refine r_cv16 hG Y Y Y Y Y Y ?_ | refine Bs hG Y Y Y Y Y (by omega) ?_ | refine Bc hG Y Y Y Y Y ?_)
      | (show AOp _ _ ⟨_, .box _ _, _, _, _, _⟩ _ _ _; refine r_box hG Y Y Y (fun i => ?_))
      | (show AOp _ _ ⟨_, .alloc _, _, _, _, _⟩ _ _ _; refine Bg hG Y Y (fun i => ?_))
      | (show AOp _ _ ⟨_, .store _ _ _, _, _, _, _⟩ _ _ _; first | refine Ax 0 hG Y Y Y Y Y Y Y ?_ | refine Ax 1 hG Y Y Y Y Y Y Y ?_ | refine Ax 2 hG Y Y Y Y Y Y Y ?_)
      | (show AOp _ _ ⟨_, .call ⟨.value _, _, _⟩, _, _, _, _⟩ _ _ _; first | ((fail_if_success have := kk); refine r_owns Y Y Y Y Y (by apply num_Put <;> (first | assumption | omega | exact Ae _ _ | exact Ak _ | exact Am _ _ | exact Ay _ | rfl | (simp; omega))) (fun k => ?_)) | (have := kk; clear this; refine A7 Y Y Y Y Y (Owns.pure (by apply num_Put <;> (first | assumption | omega | exact Ae _ _ | exact Ak _ | exact Am _ _ | exact Ay _ | rfl | (simp; omega)))) ?_) | fail)
      | refine r_q hG Y Y Y ?_); exact kk)
    | refine dq_d Y Y Y (fun σ hσ K kt kf => by obtain ⟨R, rfl⟩ := hσ; exact Aq hG Y Y Y Y Y kt kf) (fun h => ?_) (fun h => ?_)
    | refine dq_d Y Y Y (fun σ hσ K kt kf => by obtain ⟨R, rfl⟩ := hσ; exact r_str hG Y Y Y Y kt kf) (fun h => ?_) (fun h => ?_)
    | refine dq_s Y Y Y Y ?_ | refine dq_e Y ?_ | (refine dq_nil ?_; show EL _ _ _ _ _ _ _ _ _) | refine el_s ⟨_, Y⟩ Y Y Y Y ?_
    | ((first | refine el_cons ⟨_, Y⟩ Y Y Y (fun K ke => ?_) | refine el_consN ⟨_, Y⟩ Y Y Y (fun K ke => ?_)); (first
      | (show AOp _ _ ⟨_, .move _, _, _, _, _⟩ _ _ _; refine Ao hG Y Y ?_)
      | (show AOp _ _ ⟨_, .assign _, _, _, _, _⟩ _ _ _; refine A1 hG Y Y ?_)
      | (show AOp _ _ ⟨_, .call ⟨.builtin .len, _, _⟩, _, _, _, _⟩ _ _ _; first | refine Bb hG Y Y Y Y ?_ | refine Bi hG Y Y Y Y Y ?_)
      | (show AOp _ _ ⟨_, .binOp .add _ _ _ _, _, _, _, _⟩ _ _ _; first | refine Az hG Y Y Y Y Y (by omega) ?_)
      | (show AOp _ _ ⟨_, .binOp _ _ _ _ _, _, _, _, _⟩ _ _ _; first | refine Au hG Y Y Y Y Y (by omega) ?_ | refine As hG Y Y Y Y Y (by omega) ?_)
      | (show AOp _ _ ⟨_, .load _ _, _, _, _, _⟩ _ _ _; first | refine Bo hG Y Y Y ?_ | refine Aj 0 hG Y Y Y Y ?_ | refine Aj 1 hG Y Y Y Y ?_ | refine Aj 2 hG Y Y Y Y ?_)
      | (show AOp _ _ ⟨_, .indexAddr _ _ _, _, _, _, _⟩ _ _ _; first | refine Bn hG Y Y Y Y Y Y Y (by omega) ?_ | refine Bp hG Y Y Y Y Y Y Y (by omega) ?_ | refine r_idx hG Y Y ?_)
      | (show AOp _ _ ⟨_, .convert _ _ _, _, _, _, _⟩ _ _ _; first | refine r_cv8 hG Y Y Y Y Y Y ?_ | refine r_cv16 hG Y Y Y Y Y Y ?_ | refine Bs hG Y Y Y Y Y (by omega) ?_ | refine Bc hG Y Y Y Y Y ?_)
      | (show AOp _ _ ⟨_, .box _ _, _, _, _, _⟩ _ _ _; refine r_box hG Y Y Y (fun i => ?_))
      | (show AOp _ _ ⟨_, .alloc _, _, _, _, _⟩ _ _ _; refine Bg hG Y Y (fun i => ?_))
      | (show AOp _ _ ⟨_, .store _ _ _, _, _, _, _⟩ _ _ _; first | refine Ax 0 hG Y Y Y Y Y Y Y ?_ | refine Ax 1 hG Y Y Y Y Y Y Y ?_ | refine Ax 2 hG Y Y Y Y Y Y Y ?_)
      | (show AOp _ _ ⟨_, .call ⟨.value _, _, _⟩, _, _, _, _⟩ _ _ _; first | ((fail_if_success have := kk); refine r_owns Y Y Y Y Y (by apply num_Put <;> (first | assumption | omega | exact Ae _ _ | exact Ak _ | exact Am _ _ | exact Ay _ | rfl | (simp; omega))) (fun k => ?_)) | (have := kk; clear this; refine A7 Y Y Y Y Y (Owns.pure (by apply num_Put <;> (first | assumption | omega | exact Ae _ _ | exact Ak _ | exact Am _ _ | exact Ay _ | rfl | (simp; omega)))) ?_) | fail)
      | refine r_q hG Y Y Y ?_); refine ke _ _ ?_)
    | (refine el_nil ⟨_, Y⟩ ?_; show AL _ _ _ _ _ _ _ _) | fail)
    repeat' (first
    | ((first | (show AL _ _ _ _ _ _ _ _; refine Ac Y ?_) | (show DL _ _ _ _ _ _ _; refine' Be Y Y (fun K kk => ?_) ?_; try (show Go.Ts.T; rotate_left))); (first
      | (show AOp _ _ ⟨_, .move _, _, _, _, _⟩ _ _ _; refine Ao hG Y Y ?_)
      | (show AOp _ _ ⟨_, .assign _, _, _, _, _⟩ _ _ _; refine A1 hG Y Y ?_)
      | (show AOp _ _ ⟨_, .call ⟨.builtin .len, _, _⟩, _, _, _, _⟩ _ _ _; first | refine Bb hG Y Y Y Y ?_ | refine Bi hG Y Y Y Y Y ?_)
      | (show AOp _ _ ⟨_, .binOp .add _ _ _ _, _, _, _, _⟩ _ _ _; first | refine Az hG Y Y Y Y Y (by omega) ?_)
      | (show AOp _ _ ⟨_, .binOp _ _ _ _ _, _, _, _, _⟩ _ _ _; first | refine Au hG Y Y Y Y Y (by omega) ?_ | refine As hG Y Y Y Y Y (by omega) ?_ | ((fail_if_success have := kk); refine Aq hG Y Y Y Y Y (fun h => ?_) (fun h => ?_)))
      | (show AOp _ _ ⟨_, .load _ _, _, _, _, _⟩ _ _ _; first | refine Bo hG Y Y Y ?_ | refine Aj 0 hG Y Y Y Y ?_ | refine Aj 1 hG Y Y Y Y ?_ | refine Aj 2 hG Y Y Y Y ?_)
      | (show AOp _ _ ⟨_, .indexAddr _ _ _, _, _, _, _⟩ _ _ _; first | refine Bn hG Y Y Y Y Y Y Y (by omega) ?_ | refine Bp hG Y Y Y Y Y Y Y (by omega) ?_ | refine r_idx hG Y Y ?_)
      | (show AOp _ _ ⟨_, .convert _ _ _, _, _, _, _⟩ _ _ _; first | refine r_cv8 hG Y Y Y Y Y Y ?_ | refine r_cv16 hG Y Y Y Y Y Y ?_ | refine Bs hG Y Y Y Y Y (by omega) ?_ | refine Bc hG Y Y Y Y Y ?_)
      | (show AOp _ _ ⟨_, .box _ _, _, _, _, _⟩ _ _ _; refine r_box hG Y Y Y (fun i => ?_))
      | (show AOp _ _ ⟨_, .alloc _, _, _, _, _⟩ _ _ _; refine Bg hG Y Y (fun i => ?_))
      | (show AOp _ _ ⟨_, .store _ _ _, _, _, _, _⟩ _ _ _; first | refine Ax 0 hG Y Y Y Y Y Y Y ?_ | refine Ax 1 hG Y Y Y Y Y Y Y ?_ | refine Ax 2 hG Y Y Y Y Y Y Y ?_)
      | refine r_q hG Y Y Y ?_); try exact kk)
    | (show AL _ _ _ _ _ _ _ _; first | refine Bd Y Y Y ?_ | (refine Al ?_; first | show AW _ _ _ _ _ _ | show ∃ x', _ < _ ∧ _)) | (show AW _ _ (.seq _ _) _ _ _; refine Af ?_; intro Q1) | (show AW _ _ (.region _ _ false) _ _ _; refine Ad ?_; intro O1) | (show AW _ _ (.cond _ _ _) _ _ _; first | refine Ai Y ?_ | refine Ah Y ?_) | (show AW _ _ (.skip) _ _ _; refine Ag ?_; first | show AW _ _ _ _ _ _ | show ∃ x', _ < _ ∧ _) | (show AW _ _ (.block _ _) _ _ _; refine Aw ?_; intro Q1) | (show AW _ _ (.exit _) _ _ _; refine Bx ?_; first | show AW _ _ _ _ _ _ | show ∃ x', _ < _ ∧ _) | (show AW _ _ (.ret) _ _ _; refine Av ?_; try dsimp only [Ar, Aa, Ap, Ab])
    | (show DL _ _ _ _ _ _ _; refine dl_d Y Y (fun K kt kf => Aq hG Y Y Y Y Y kt kf) (fun h => ?_) (fun h => ?_))
    | (show DL _ _ _ _ _ _ _; refine dl_s Y Y Y ?_) | (show DL _ _ _ _ _ _ _; refine Bk ?_; first | show AW _ _ _ _ _ _ | show ∃ x', _ < _ ∧ _) | (show AW _ _ (.region _ _ true) _ _ _; refine A8 mix (by kernel_rfl) ?_; intro O1) | fail)
    refine ⟨⟨j + 1, p, _, by omega⟩, by dsimp only; omega, ?_, (drop_1.trans drop_tok')⟩
    exact .cons rfl (.cons rfl (.consW rfl (.int (by simp)) (.consW rfl (.eq (by rw [hf, ← List.append_assoc, hz]; simp [putP])) (.nil _))))
  · obtain rfl : j = l.length := by omega
    repeat' (first
    | ((first | (show AL _ _ _ _ _ _ _ _; refine Ac Y ?_) | (show DL _ _ _ _ _ _ _; refine' Be Y Y (fun K kk => ?_) ?_; try (show Go.Ts.T; rotate_left))); (first
      | (show AOp _ _ ⟨_, .move _, _, _, _, _⟩ _ _ _; refine Ao hG Y Y ?_)
      | (show AOp _ _ ⟨_, .assign _, _, _, _, _⟩ _ _ _; refine A1 hG Y Y ?_)
      | (show AOp _ _ ⟨_, .call ⟨.builtin .len, _, _⟩, _, _, _, _⟩ _ _ _; first | refine Bb hG Y Y Y Y ?_ | refine Bi hG Y Y Y Y Y ?_)
      | (show AOp _ _ ⟨_, .binOp .add _ _ _ _, _, _, _, _⟩ _ _ _; first | refine Az hG Y Y Y Y Y (by omega) ?_)
      | (show AOp _ _ ⟨_, .binOp _ _ _ _ _, _, _, _, _⟩ _ _ _; first | refine Au hG Y Y Y Y Y (by omega) ?_ | refine As hG Y Y Y Y Y (by omega) ?_ | ((fail_if_success have := kk); refine Aq hG Y Y Y Y Y (fun h => ?_) (fun h => ?_)))
      | (show AOp _ _ ⟨_, .load _ _, _, _, _, _⟩ _ _ _; first | refine Bo hG Y Y Y ?_ | refine Aj 0 hG Y Y Y Y ?_ | refine Aj 1 hG Y Y Y Y ?_ | refine Aj 2 hG Y Y Y Y ?_)
      | (show AOp _ _ ⟨_, .indexAddr _ _ _, _, _, _, _⟩ _ _ _; first | refine Bn hG Y Y Y Y Y Y Y (by omega) ?_ | refine Bp hG Y Y Y Y Y Y Y (by omega) ?_ | refine r_idx hG Y Y ?_)
      | (show AOp _ _ ⟨_, .convert _ _ _, _, _, _, _⟩ _ _ _; first | refine r_cv8 hG Y Y Y Y Y Y ?_ | refine r_cv16 hG Y Y Y Y Y Y ?_ | refine Bs hG Y Y Y Y Y (by omega) ?_ | refine Bc hG Y Y Y Y Y ?_)
      | (show AOp _ _ ⟨_, .box _ _, _, _, _, _⟩ _ _ _; refine r_box hG Y Y Y (fun i => ?_))
      | (show AOp _ _ ⟨_, .alloc _, _, _, _, _⟩ _ _ _; refine Bg hG Y Y (fun i => ?_))
      | (show AOp _ _ ⟨_, .store _ _ _, _, _, _, _⟩ _ _ _; first | refine Ax 0 hG Y Y Y Y Y Y Y ?_ | refine Ax 1 hG Y Y Y Y Y Y Y ?_ | refine Ax 2 hG Y Y Y Y Y Y Y ?_)
      | refine r_q hG Y Y Y ?_); try exact kk)
    | (show AL _ _ _ _ _ _ _ _; first | refine Bd Y Y Y ?_ | (refine Al ?_; first | show AW _ _ _ _ _ _ | show ∃ x', _ < _ ∧ _)) | (show AW _ _ (.seq _ _) _ _ _; refine Af ?_; intro Q1) | (show AW _ _ (.region _ _ false) _ _ _; refine Ad ?_; intro O1) | (show AW _ _ (.cond _ _ _) _ _ _; first | refine Ai Y ?_ | refine Ah Y ?_) | (show AW _ _ (.skip) _ _ _; refine Ag ?_; first | show AW _ _ _ _ _ _ | show ∃ x', _ < _ ∧ _) | (show AW _ _ (.block _ _) _ _ _; refine Aw ?_; intro Q1) | (show AW _ _ (.exit _) _ _ _; refine Bx ?_; first | show AW _ _ _ _ _ _ | show ∃ x', _ < _ ∧ _) | (show AW _ _ (.ret) _ _ _; refine Av ?_; try dsimp only [Ar, Aa, Ap, Ab])
    | (show DL _ _ _ _ _ _ _; refine dl_d Y Y (fun K kt kf => Aq hG Y Y Y Y Y kt kf) (fun h => ?_) (fun h => ?_))
    | (show DL _ _ _ _ _ _ _; refine dl_s Y Y Y ?_) | (show DL _ _ _ _ _ _ _; refine Bk ?_; first | show AW _ _ _ _ _ _ | show ∃ x', _ < _ ∧ _) | (show AW _ _ (.region _ _ true) _ _ _; refine A8 mix (by kernel_rfl) ?_; intro O1) | fail)
    exact ret_owns 0 (A2 rfl A3) rfl (by rw [List.take_length]; rfl) rfl
end Go.Proofs.Ytemgmkoggnjgjaa
namespace Go.Proofs.Ytemgmkoggnjgjaa
open Go.Ts
attribute [local irreducible] Go.Ts.AW Go.Ts.AOps Go.Ts.AL Go.Ts.AOp Go.Ts.ACalls Go.Ts.DL Go.Ts.DQ Go.Ts.EL
theorem neg_lt_tmod (p : Int) {n : Int} (h : 0 < n) : -n < p.tmod n := by
  have h1 := Int.tmod_lt_of_pos (-p) h
  rw [Int.neg_tmod] at h1; omega
def placeN (p n : Int) : Int := if n < 1 then 0 else if p.tmod n < 0 then p.tmod n + n else p.tmod n
theorem placeN_lt {p n : Int} (h : 1 ≤ n) : 0 ≤ placeN p n ∧ placeN p n < n := by
  unfold placeN
  rw [if_neg (by omega)]
  have h1 := Int.tmod_lt_of_pos p (by omega : 0 < n)
  have h2 : -n < p.tmod n := neg_lt_tmod p (by omega)
  split <;> omega
theorem law_Place {p n : Int} (h : 0 ≤ n ∧ n ≤ 9223372036854775807) : Ts.Pure Try.prog 11 [.int .i64 p, .int .i64 n] (.int .i64 (placeN p n)) := by
  intro off
  refine A5 (N := 16) (rs := [.tmp 4]) hG Try.func11 rfl rfl rfl rfl rfl ?_
  by_cases h1 : n < 1
  · repeat' (first
    | ((show AL _ _ _ _ _ _ _ _; refine Ac Y ?_); (first
      | (show AOp _ _ ⟨_, .move _, _, _, _, _⟩ _ _ _; refine Ao hG Y Y ?_)
      | (show AOp _ _ ⟨_, .assign _, _, _, _, _⟩ _ _ _; refine A1 hG Y Y ?_)
      | (show AOp _ _ ⟨_, .binOp .add _ _ _ _, _, _, _, _⟩ _ _ _; first | refine Az hG Y Y Y Y Y (by omega) ?_)
      | (show AOp _ _ ⟨_, .binOp .rem _ _ _ _, _, _, _, _⟩ _ _ _; first | refine r_rem hG Y Y Y Y (by omega) ?_ | refine r_trem hG Y Y Y Y (by omega) ?_)
      | (show AOp _ _ ⟨_, .binOp _ _ _ _ _, _, _, _, _⟩ _ _ _; first | refine Au hG Y Y Y Y Y (by omega) ?_ | refine As hG Y Y Y Y Y (by omega) ?_ | (refine Aq hG Y Y Y Y Y (fun h => ?_) (fun h => ?_)))
      | refine r_q hG Y Y Y ?_))
    | (show AL _ _ _ _ _ _ _ _; first | refine Bd Y Y Y ?_ | (refine Al ?_; first | show AW _ _ _ _ _ _ | show ∃ x', _ < _ ∧ _)) | (show AW _ _ (.seq _ _) _ _ _; refine Af ?_; intro Q1) | (show AW _ _ (.region _ _ false) _ _ _; refine Ad ?_; intro O1) | (show AW _ _ (.cond _ _ _) _ _ _; first | refine Ai Y ?_ | refine Ah Y ?_) | (show AW _ _ (.skip) _ _ _; refine Ag ?_; first | show AW _ _ _ _ _ _ | show ∃ x', _ < _ ∧ _) | (show AW _ _ (.ret) _ _ _; refine Av ?_; try dsimp only [Ar, Aa, Ap, Ab]) | fail)
    exact A9 (A2 rfl A3) (.int (by rw [placeN, if_pos h1])) rfl
  · have h3 := Int.tmod_lt_of_pos p (by omega : 0 < n)
    have h4 : -n < p.tmod n := neg_lt_tmod p (by omega)
    by_cases h2 : p.tmod n < 0
    · repeat' (first
    | ((show AL _ _ _ _ _ _ _ _; refine Ac Y ?_); (first
      | (show AOp _ _ ⟨_, .move _, _, _, _, _⟩ _ _ _; refine Ao hG Y Y ?_)
      | (show AOp _ _ ⟨_, .assign _, _, _, _, _⟩ _ _ _; refine A1 hG Y Y ?_)
      | (show AOp _ _ ⟨_, .binOp .add _ _ _ _, _, _, _, _⟩ _ _ _; first | refine Az hG Y Y Y Y Y (by omega) ?_)
      | (show AOp _ _ ⟨_, .binOp .rem _ _ _ _, _, _, _, _⟩ _ _ _; first | refine r_rem hG Y Y Y Y (by omega) ?_ | refine r_trem hG Y Y Y Y (by omega) ?_)
      | (show AOp _ _ ⟨_, .binOp _ _ _ _ _, _, _, _, _⟩ _ _ _; first | refine Au hG Y Y Y Y Y (by omega) ?_ | refine As hG Y Y Y Y Y (by omega) ?_ | (refine Aq hG Y Y Y Y Y (fun h => ?_) (fun h => ?_)))
      | refine r_q hG Y Y Y ?_))
    | (show AL _ _ _ _ _ _ _ _; first | refine Bd Y Y Y ?_ | (refine Al ?_; first | show AW _ _ _ _ _ _ | show ∃ x', _ < _ ∧ _)) | (show AW _ _ (.seq _ _) _ _ _; refine Af ?_; intro Q1) | (show AW _ _ (.region _ _ false) _ _ _; refine Ad ?_; intro O1) | (show AW _ _ (.cond _ _ _) _ _ _; first | refine Ai Y ?_ | refine Ah Y ?_) | (show AW _ _ (.skip) _ _ _; refine Ag ?_; first | show AW _ _ _ _ _ _ | show ∃ x', _ < _ ∧ _) | (show AW _ _ (.ret) _ _ _; refine Av ?_; try dsimp only [Ar, Aa, Ap, Ab]) | fail)
      exact A9 (A2 rfl A3) (.int (by rw [placeN, if_neg h1, if_pos h2])) rfl
    · repeat' (first
    | ((show AL _ _ _ _ _ _ _ _; refine Ac Y ?_); (first
      | (show AOp _ _ ⟨_, .move _, _, _, _, _⟩ _ _ _; refine Ao hG Y Y ?_)
      | (show AOp _ _ ⟨_, .assign _, _, _, _, _⟩ _ _ _; refine A1 hG Y Y ?_)
      | (show AOp _ _ ⟨_, .binOp .add _ _ _ _, _, _, _, _⟩ _ _ _; first | refine Az hG Y Y Y Y Y (by omega) ?_)
      | (show AOp _ _ ⟨_, .binOp .rem _ _ _ _, _, _, _, _⟩ _ _ _; first | refine r_rem hG Y Y Y Y (by omega) ?_ | refine r_trem hG Y Y Y Y (by omega) ?_)
      | (show AOp _ _ ⟨_, .binOp _ _ _ _ _, _, _, _, _⟩ _ _ _; first | refine Au hG Y Y Y Y Y (by omega) ?_ | refine As hG Y Y Y Y Y (by omega) ?_ | (refine Aq hG Y Y Y Y Y (fun h => ?_) (fun h => ?_)))
      | refine r_q hG Y Y Y ?_))
    | (show AL _ _ _ _ _ _ _ _; first | refine Bd Y Y Y ?_ | (refine Al ?_; first | show AW _ _ _ _ _ _ | show ∃ x', _ < _ ∧ _)) | (show AW _ _ (.seq _ _) _ _ _; refine Af ?_; intro Q1) | (show AW _ _ (.region _ _ false) _ _ _; refine Ad ?_; intro O1) | (show AW _ _ (.cond _ _ _) _ _ _; first | refine Ai Y ?_ | refine Ah Y ?_) | (show AW _ _ (.skip) _ _ _; refine Ag ?_; first | show AW _ _ _ _ _ _ | show ∃ x', _ < _ ∧ _) | (show AW _ _ (.ret) _ _ _; refine Av ?_; try dsimp only [Ar, Aa, Ap, Ab]) | fail)
      exact A9 (A2 rfl A3) (.int (by rw [placeN, if_neg h1, if_neg h2])) rfl
end Go.Proofs.Ytemgmkoggnjgjaa
namespace Go.Proofs.Ytemgmkoggnjgjaa
open Go.Ts Go.Sets
set_option linter.unusedSimpArgs false
set_option linter.unusedVariables false
attribute [local irreducible] Go.Ts.AW Go.Ts.AOps Go.Ts.AL Go.Ts.AOp Go.Ts.ACalls Go.Ts.DL Go.Ts.DQ Go.Ts.EL
structure OB where
  id : Nat
  kind : Int
  df : UInt8
  ps : List PR
  s : List UInt16
  i : List UInt16
  o : List UInt16
  q : Int
  u : Int
  x : Int
  d : List UInt8
  c : List UInt16
  r : List (List UInt8)
def OB.cells (o : OB) : List T := [.int .u64 o.id, .int .i64 o.kind, bT o.df, .sl 2 .no (o.ps.map pT), cT o.s, cT o.i, cT o.o, .int .i64 o.q, .int .i64 o.u, .int .i64 o.x, sT o.d, cT o.c, lT o.r]
def OB.t (o : OB) : T := .agg [.int .u64 o.id, .int .i64 o.kind, bT o.df, .sl 2 .no (o.ps.map pT), cT o.s, cT o.i, cT o.o, .int .i64 o.q, .int .i64 o.u, .int .i64 o.x, sT o.d, cT o.c, lT o.r]
structure OB.Fits (o : OB) : Prop where
  hid : o.id < 18446744073709551616
  hs : o.s.length ≤ bigLen
  hi : o.i.length ≤ bigLen
  ho : o.o.length ≤ bigLen
  hd : o.d.length ≤ bigLen
  hc : o.c.length ≤ bigLen
  hr : o.r.length ≤ bigLen
  hrb : ∀ b ∈ o.r, b.length ≤ bigLen
  hps : o.ps.length ≤ bigLen
end Go.Proofs.Ytemgmkoggnjgjaa
