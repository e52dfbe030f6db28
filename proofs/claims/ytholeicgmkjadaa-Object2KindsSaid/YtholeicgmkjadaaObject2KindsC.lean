/- Part of the proof of the law Object2Kinds: the texts S1, S2, S3, PC, S4, S5, RA, RP, OP0, RT, O1, LP. No conditions. -/
import Derived.Test.YtholeicgmkjadaaObject2KindsB
set_option linter.unusedSimpArgs false
set_option linter.unusedVariables false
namespace Go.Proofs.Ytholeicgmkjadaa
open Go.Ts
attribute [local irreducible] Go.Ts.AW Go.Ts.AOps Go.Ts.AL Go.Ts.AOp Go.Ts.ACalls Go.Ts.DL
theorem mix : Try.prog.follows .mixedOrders = true := by kernel_rfl

theorem clone_b {x : T} {b : List UInt8} (hx : bytesT x = some b) (hl : b.length ≤ 4294967296) : Owns Try.prog 55 [x] 1 (b.map bT) := by
  refine Owns.weak (us := [sT b]) ?_ (wk1 (bytesT_wk hx))
  intro off
  refine Bv (N := 8) (rs := [.tmp 2]) hG Try.func55 rfl rfl rfl rfl rfl ?_
  repeat' (first
    | ((show AL _ _ _ _ _ _ _ _; refine Af Y ?_); (first
      | (show AOp _ _ ⟨_, .move _, _, _, _, _⟩ _ _ _; refine Aq hG Y Y ?_)
      | (show AOp _ _ ⟨_, .assign _, _, _, _, _⟩ _ _ _; refine A7 hG Y Y ?_)
      | (show AOp _ _ ⟨_, .binOp _ _ _ _ _, _, _, _, _⟩ _ _ _; first | refine r_bin' hG Y Y Y ?_)
      | (show AOp _ _ ⟨_, .buildSlice _ _ _, _, _, _, _⟩ _ _ _; first | refine r_mk (sz := 1) hG Y Y Y Y Y Y Y ?_)
      | (show AOp _ _ ⟨_, .call ⟨.builtin .append, _, _⟩, _, _, _, _⟩ _ _ _; first | refine Bz (sz := 1) (xs := []) hG Y Y Y Y Y Y Y ⟨_, Y⟩ Y Y Y Y Y Y Y (by first | omega | (simp; omega)) (fun k => ?_) | refine B3 0 hG Y Y Y Y Y Y Y ⟨_, Y⟩ Y Y Y Y Y (by first | omega | (simp only [List.length_append, List.length_cons, List.length_nil]; omega)) (fun k => ?_) | fail)
      | refine r_q hG Y Y Y ?_))
    | (show AL _ _ _ _ _ _ _ _; first | refine Bn Y Y Y ?_ | (refine As ?_; first | show AW _ _ _ _ _ _ | show ∃ x', _ < _ ∧ _)) | (show AW _ _ (.seq _ _) _ _ _; refine Ah ?_; intro Q1) | (show AW _ _ (.region _ _ false) _ _ _; refine Ad ?_; intro O1) | (show AW _ _ (.cond _ _ _) _ _ _; first | refine Aj Y ?_ | refine Ai Y ?_) | (show AW _ _ (.skip) _ _ _; refine Am ?_; first | show AW _ _ _ _ _ _ | show ∃ x', _ < _ ∧ _) | (show AW _ _ (.ret) _ _ _; refine Ar ?_; try dsimp only [Al, Aa, Ak, Ab]) | fail)
  refine Af rfl (op_eqnil hG rfl rfl rfl rfl rfl rfl rfl rfl (fun b hb => ?_))
  cases b with
  | true =>
    repeat' (first
    | ((show AL _ _ _ _ _ _ _ _; refine Af Y ?_); (first
      | (show AOp _ _ ⟨_, .move _, _, _, _, _⟩ _ _ _; refine Aq hG Y Y ?_)
      | (show AOp _ _ ⟨_, .assign _, _, _, _, _⟩ _ _ _; refine A7 hG Y Y ?_)
      | (show AOp _ _ ⟨_, .binOp _ _ _ _ _, _, _, _, _⟩ _ _ _; first | refine r_bin' hG Y Y Y ?_)
      | (show AOp _ _ ⟨_, .buildSlice _ _ _, _, _, _, _⟩ _ _ _; first | refine r_mk (sz := 1) hG Y Y Y Y Y Y Y ?_)
      | (show AOp _ _ ⟨_, .call ⟨.builtin .append, _, _⟩, _, _, _, _⟩ _ _ _; first | refine Bz (sz := 1) (xs := []) hG Y Y Y Y Y Y Y ⟨_, Y⟩ Y Y Y Y Y Y Y (by first | omega | (simp; omega)) (fun k => ?_) | refine B3 0 hG Y Y Y Y Y Y Y ⟨_, Y⟩ Y Y Y Y Y (by first | omega | (simp only [List.length_append, List.length_cons, List.length_nil]; omega)) (fun k => ?_) | fail)
      | refine r_q hG Y Y Y ?_))
    | (show AL _ _ _ _ _ _ _ _; first | refine Bn Y Y Y ?_ | (refine As ?_; first | show AW _ _ _ _ _ _ | show ∃ x', _ < _ ∧ _)) | (show AW _ _ (.seq _ _) _ _ _; refine Ah ?_; intro Q1) | (show AW _ _ (.region _ _ false) _ _ _; refine Ad ?_; intro O1) | (show AW _ _ (.cond _ _ _) _ _ _; first | refine Aj Y ?_ | refine Ai Y ?_) | (show AW _ _ (.skip) _ _ _; refine Am ?_; first | show AW _ _ _ _ _ _ | show ∃ x', _ < _ ∧ _) | (show AW _ _ (.ret) _ _ _; refine Ar ?_; try dsimp only [Al, Aa, Ak, Ab]) | fail)
    exact ret_owns0 (sz := 1) (Ao rfl A8) rfl rfl (by rw [hb rfl]) rfl
  | false =>
    repeat' (first
    | ((show AL _ _ _ _ _ _ _ _; refine Af Y ?_); (first
      | (show AOp _ _ ⟨_, .move _, _, _, _, _⟩ _ _ _; refine Aq hG Y Y ?_)
      | (show AOp _ _ ⟨_, .assign _, _, _, _, _⟩ _ _ _; refine A7 hG Y Y ?_)
      | (show AOp _ _ ⟨_, .binOp _ _ _ _ _, _, _, _, _⟩ _ _ _; first | refine r_bin' hG Y Y Y ?_)
      | (show AOp _ _ ⟨_, .buildSlice _ _ _, _, _, _, _⟩ _ _ _; first | refine r_mk (sz := 1) hG Y Y Y Y Y Y Y ?_)
      | (show AOp _ _ ⟨_, .call ⟨.builtin .append, _, _⟩, _, _, _, _⟩ _ _ _; first | refine Bz (sz := 1) (xs := []) hG Y Y Y Y Y Y Y ⟨_, Y⟩ Y Y Y Y Y Y Y (by first | omega | (simp; omega)) (fun k => ?_) | refine B3 0 hG Y Y Y Y Y Y Y ⟨_, Y⟩ Y Y Y Y Y (by first | omega | (simp only [List.length_append, List.length_cons, List.length_nil]; omega)) (fun k => ?_) | fail)
      | refine r_q hG Y Y Y ?_))
    | (show AL _ _ _ _ _ _ _ _; first | refine Bn Y Y Y ?_ | (refine As ?_; first | show AW _ _ _ _ _ _ | show ∃ x', _ < _ ∧ _)) | (show AW _ _ (.seq _ _) _ _ _; refine Ah ?_; intro Q1) | (show AW _ _ (.region _ _ false) _ _ _; refine Ad ?_; intro O1) | (show AW _ _ (.cond _ _ _) _ _ _; first | refine Aj Y ?_ | refine Ai Y ?_) | (show AW _ _ (.skip) _ _ _; refine Am ?_; first | show AW _ _ _ _ _ _ | show ∃ x', _ < _ ∧ _) | (show AW _ _ (.ret) _ _ _; refine Ar ?_; try dsimp only [Al, Aa, Ak, Ab]) | fail)
    exact ret_owns 0 (Ao rfl A8) rfl (by rfl) rfl

def be (v : Nat) : Nat → List UInt8
  | 0 => []
  | n + 1 => UInt8.ofNat (v / 2 ^ (8 * n)) :: be v n
def putI (v n : Int) : List UInt8 := if 0 ≤ n ∧ n ≤ 8 then be v.toNat n.toNat else []
theorem be_length (v n : Nat) : (be v n).length = n := by induction n <;> simp [be, *]
theorem putI_le (v n : Int) : (putI v n).length ≤ 8 := by
  unfold putI; split
  · rw [be_length]; omega
  · simp
theorem bT_of (n : Int) (k : Nat) (h : n = (k : Int)) : T.int .u8 (IntKind.u8.wrap n) = bT (UInt8.ofNat k) := by
  subst h; rw [u8_wrap]; unfold bT; congr 1

structure PutX (v n : Int) where
  hn : 0 ≤ n ∧ n ≤ 8
  i : Nat
  pre : List UInt8
  k : Nat
  hi : i ≤ 8
  hp : pre ++ be v.toNat i = be v.toNat n.toNat
theorem num_Put {x : T} {b : List UInt8} {v n : Int} (hx : bytesT x = some b) (hl : b.length ≤ 4294967000) (hv : 0 ≤ v) :
    Owns Try.prog 32 [x, .int .u64 v, .int .i64 n] 1 ((b ++ putI v n).map bT) := by
  refine Owns.weak (us := [sT b, .int .u64 v, .int .i64 n]) ?_ (wk3 (bytesT_wk hx) (.refl _) (.refl _))
  intro off
  refine Bv (N := 33) (rs := [.tmp 6]) hG Try.func32 rfl rfl rfl rfl rfl ?_
  repeat' (first
    | ((show AL _ _ _ _ _ _ _ _; refine Af Y ?_); (first
      | (show AOp _ _ ⟨_, .move _, _, _, _, _⟩ _ _ _; refine Aq hG Y Y ?_)
      | (show AOp _ _ ⟨_, .assign _, _, _, _, _⟩ _ _ _; refine A7 hG Y Y ?_)
      | (show AOp _ _ ⟨_, .binOp .sub _ _ _ _, _, _, _, _⟩ _ _ _; first | refine Az hG Y Y Y Y Y (by omega) ?_)
      | (show AOp _ _ ⟨_, .binOp .mul _ _ _ _, _, _, _, _⟩ _ _ _; first | refine Az hG Y Y Y Y Y (by omega) ?_)
      | (show AOp _ _ ⟨_, .binOp .shr _ _ _ _, _, _, _, _⟩ _ _ _; refine r_shr hG Y Y Y Y (by omega) ?_)
      | (show AOp _ _ ⟨_, .binOp _ _ _ _ _, _, _, _, _⟩ _ _ _; first | refine Av hG Y Y Y Y Y (by omega) ?_ | refine Aw hG Y Y Y Y Y (by omega) ?_ | (refine Au hG Y Y Y Y Y (fun h => ?_) (fun h => ?_)))
      | (show AOp _ _ ⟨_, .convert _ _ _, _, _, _, _⟩ _ _ _; first | refine r_cv_u64 hG Y Y Y Y Y (by omega) ?_ | refine r_cv_u8 hG Y Y Y Y Y (by omega) ?_ | refine B0 hG Y Y Y Y Y ?_)
      | (show AOp _ _ ⟨_, .pick _ _ _, _, _, _, _⟩ _ _ _; refine Br hG Y Y Y ?_)
      | (show AOp _ _ ⟨_, .buildSlice _ _ _, _, _, _, _⟩ _ _ _; first | refine r_mk (sz := 1) hG Y Y Y Y Y Y Y ?_)
      | (show AOp _ _ ⟨_, .call ⟨.builtin .append, _, _⟩, _, _, _, _⟩ _ _ _; first | refine Bz (sz := 1) (xs := []) hG Y Y Y Y Y Y Y ⟨_, Y⟩ Y Y Y Y Y Y Y (by first | omega | (simp; omega)) (fun k => ?_) | refine B3 0 hG Y Y Y Y Y Y Y ⟨_, Y⟩ Y Y Y Y Y (by first | omega | (simp only [List.length_append, List.length_cons, List.length_nil]; omega)) (fun k => ?_) | fail)
      | refine r_q hG Y Y Y ?_))
    | (show AL _ _ _ _ _ _ _ _; first | refine Bn Y Y Y ?_ | (refine As ?_; first | show AW _ _ _ _ _ _ | show ∃ x', _ < _ ∧ _)) | (show AW _ _ (.seq _ _) _ _ _; refine Ah ?_; intro Q1) | (show AW _ _ (.region _ _ false) _ _ _; refine Ad ?_; intro O1) | (show AW _ _ (.cond _ _ _) _ _ _; first | refine Aj Y ?_ | refine Ai Y ?_) | (show AW _ _ (.skip) _ _ _; refine Am ?_; first | show AW _ _ _ _ _ _ | show ∃ x', _ < _ ∧ _) | (show AW _ _ (.goto _) _ _ _; refine Bm ?_; try dsimp only [Al, Aa, Ak, Ab]) | (show AW _ _ (.ret) _ _ _; refine Ar ?_; try dsimp only [Al, Aa, Ak, Ab]) | fail)
  refine aw_scope' 0 rfl (X := PutX v n) (fun x => [(1, .int .u64 v), (7, .sl 1 (.tok x.k) ((b ++ x.pre).map bT)), (8, .int .i64 x.i)]) (fun x => ⟨[], [x.k], off, none⟩) (fun x => x.i) ?_ ?_
  · rintro ⟨hn, i, pre, k, hi, hp⟩
    dsimp only
    repeat' (first
    | ((show AL _ _ _ _ _ _ _ _; refine Af Y ?_); (first
      | (show AOp _ _ ⟨_, .move _, _, _, _, _⟩ _ _ _; refine Aq hG Y Y ?_)
      | (show AOp _ _ ⟨_, .assign _, _, _, _, _⟩ _ _ _; refine A7 hG Y Y ?_)
      | (show AOp _ _ ⟨_, .binOp .sub _ _ _ _, _, _, _, _⟩ _ _ _; first | refine Az hG Y Y Y Y Y (by omega) ?_)
      | (show AOp _ _ ⟨_, .binOp .mul _ _ _ _, _, _, _, _⟩ _ _ _; first | refine Az hG Y Y Y Y Y (by omega) ?_)
      | (show AOp _ _ ⟨_, .binOp .shr _ _ _ _, _, _, _, _⟩ _ _ _; refine r_shr hG Y Y Y Y (by omega) ?_)
      | (show AOp _ _ ⟨_, .binOp _ _ _ _ _, _, _, _, _⟩ _ _ _; first | refine Av hG Y Y Y Y Y (by omega) ?_ | refine Aw hG Y Y Y Y Y (by omega) ?_ | (refine Au hG Y Y Y Y Y (fun h => ?_) (fun h => ?_)))
      | (show AOp _ _ ⟨_, .convert _ _ _, _, _, _, _⟩ _ _ _; first | refine r_cv_u64 hG Y Y Y Y Y (by omega) ?_ | refine r_cv_u8 hG Y Y Y Y Y (by omega) ?_ | refine B0 hG Y Y Y Y Y ?_)
      | (show AOp _ _ ⟨_, .pick _ _ _, _, _, _, _⟩ _ _ _; refine Br hG Y Y Y ?_)
      | (show AOp _ _ ⟨_, .buildSlice _ _ _, _, _, _, _⟩ _ _ _; first | refine r_mk (sz := 1) hG Y Y Y Y Y Y Y ?_)
      | (show AOp _ _ ⟨_, .call ⟨.builtin .append, _, _⟩, _, _, _, _⟩ _ _ _; first | refine Bz (sz := 1) (xs := []) hG Y Y Y Y Y Y Y ⟨_, Y⟩ Y Y Y Y Y Y Y (by first | omega | (simp; omega)) (fun k => ?_) | refine B3 0 hG Y Y Y Y Y Y Y ⟨_, Y⟩ Y Y Y Y Y (by first | omega | (simp only [List.length_append, List.length_cons, List.length_nil]; omega)) (fun k => ?_) | fail)
      | refine r_q hG Y Y Y ?_))
    | (show AL _ _ _ _ _ _ _ _; first | refine Bn Y Y Y ?_ | (refine As ?_; first | show AW _ _ _ _ _ _ | show ∃ x', _ < _ ∧ _)) | (show AW _ _ (.seq _ _) _ _ _; refine Ah ?_; intro Q1) | (show AW _ _ (.region _ _ false) _ _ _; refine Ad ?_; intro O1) | (show AW _ _ (.cond _ _ _) _ _ _; first | refine Aj Y ?_ | refine Ai Y ?_) | (show AW _ _ (.skip) _ _ _; refine Am ?_; first | show AW _ _ _ _ _ _ | show ∃ x', _ < _ ∧ _) | (show AW _ _ (.goto _) _ _ _; refine Bm ?_; try dsimp only [Al, Aa, Ak, Ab]) | (show AW _ _ (.ret) _ _ _; refine Ar ?_; try dsimp only [Al, Aa, Ak, Ab]) | fail)
    · obtain ⟨j, rfl⟩ : ∃ j, i = j + 1 := ⟨i - 1, by omega⟩
      have hpl2 : pre.length + (j + 1) = n.toNat := by have := congrArg List.length hp; simpa [be_length] using this
      have hbyte : T.int IntKind.u8 (IntKind.u8.wrap ((v : Int) / 2 ^ (min (8 * (((j + 1 : Nat) : Int) - 1)).toNat IntKind.u64.bits))) = bT (UInt8.ofNat (v.toNat / 2 ^ (8 * j))) := by
        have : min (8 * (((j + 1 : Nat) : Int) - 1)).toNat IntKind.u64.bits = 8 * j := by simp [IntKind.bits]; omega
        rw [this]
        obtain ⟨v, rfl⟩ := Int.eq_ofNat_of_zero_le hv
        exact bT_of _ _ (by simp)
      refine Af rfl (B3 0 (ys := [UInt8.ofNat (v.toNat / 2 ^ (8 * j))]) hG rfl rfl rfl rfl rfl rfl rfl ⟨_, rfl⟩ rfl rfl rfl rfl (congrArg (fun t => [t]) hbyte) (by simp; omega) (fun k' => ?_))
      repeat' (first
    | ((show AL _ _ _ _ _ _ _ _; refine Af Y ?_); (first
      | (show AOp _ _ ⟨_, .move _, _, _, _, _⟩ _ _ _; refine Aq hG Y Y ?_)
      | (show AOp _ _ ⟨_, .assign _, _, _, _, _⟩ _ _ _; refine A7 hG Y Y ?_)
      | (show AOp _ _ ⟨_, .binOp .sub _ _ _ _, _, _, _, _⟩ _ _ _; first | refine Az hG Y Y Y Y Y (by omega) ?_)
      | (show AOp _ _ ⟨_, .binOp .mul _ _ _ _, _, _, _, _⟩ _ _ _; first | refine Az hG Y Y Y Y Y (by omega) ?_)
      | (show AOp _ _ ⟨_, .binOp .shr _ _ _ _, _, _, _, _⟩ _ _ _; refine r_shr hG Y Y Y Y (by omega) ?_)
      | (show AOp _ _ ⟨_, .binOp _ _ _ _ _, _, _, _, _⟩ _ _ _; first | refine Av hG Y Y Y Y Y (by omega) ?_ | refine Aw hG Y Y Y Y Y (by omega) ?_ | (refine Au hG Y Y Y Y Y (fun h => ?_) (fun h => ?_)))
      | (show AOp _ _ ⟨_, .convert _ _ _, _, _, _, _⟩ _ _ _; first | refine r_cv_u64 hG Y Y Y Y Y (by omega) ?_ | refine r_cv_u8 hG Y Y Y Y Y (by omega) ?_ | refine B0 hG Y Y Y Y Y ?_)
      | (show AOp _ _ ⟨_, .pick _ _ _, _, _, _, _⟩ _ _ _; refine Br hG Y Y Y ?_)
      | (show AOp _ _ ⟨_, .buildSlice _ _ _, _, _, _, _⟩ _ _ _; first | refine r_mk (sz := 1) hG Y Y Y Y Y Y Y ?_)
      | (show AOp _ _ ⟨_, .call ⟨.builtin .append, _, _⟩, _, _, _, _⟩ _ _ _; first | refine Bz (sz := 1) (xs := []) hG Y Y Y Y Y Y Y ⟨_, Y⟩ Y Y Y Y Y Y Y (by first | omega | (simp; omega)) (fun k => ?_) | refine B3 0 hG Y Y Y Y Y Y Y ⟨_, Y⟩ Y Y Y Y Y (by first | omega | (simp only [List.length_append, List.length_cons, List.length_nil]; omega)) (fun k => ?_) | fail)
      | refine r_q hG Y Y Y ?_))
    | (show AL _ _ _ _ _ _ _ _; first | refine Bn Y Y Y ?_ | (refine As ?_; first | show AW _ _ _ _ _ _ | show ∃ x', _ < _ ∧ _)) | (show AW _ _ (.seq _ _) _ _ _; refine Ah ?_; intro Q1) | (show AW _ _ (.region _ _ false) _ _ _; refine Ad ?_; intro O1) | (show AW _ _ (.cond _ _ _) _ _ _; first | refine Aj Y ?_ | refine Ai Y ?_) | (show AW _ _ (.skip) _ _ _; refine Am ?_; first | show AW _ _ _ _ _ _ | show ∃ x', _ < _ ∧ _) | (show AW _ _ (.goto _) _ _ _; refine Bm ?_; try dsimp only [Al, Aa, Ak, Ab]) | (show AW _ _ (.ret) _ _ _; refine Ar ?_; try dsimp only [Al, Aa, Ak, Ab]) | fail)
      refine ⟨rfl, ⟨hn, j, pre ++ [UInt8.ofNat (v.toNat / 2 ^ (8 * j))], k', by omega, by rw [List.append_assoc]; exact hp⟩, by dsimp only; omega, ?_, .refl _⟩
      exact .cons rfl (.consW rfl (.eq (by simp)) (.consW rfl (.int (by simp)) (.nil _)))
    · have : i = 0 := by omega
      subst this
      simp only [be, List.append_nil] at hp
      exact ret_owns 0 (Ao rfl A8) rfl (by rw [hp, putI, if_pos hn]) rfl
  · intro key
    repeat' (first
    | ((show AL _ _ _ _ _ _ _ _; refine Af Y ?_); (first
      | (show AOp _ _ ⟨_, .move _, _, _, _, _⟩ _ _ _; refine Aq hG Y Y ?_)
      | (show AOp _ _ ⟨_, .assign _, _, _, _, _⟩ _ _ _; refine A7 hG Y Y ?_)
      | (show AOp _ _ ⟨_, .binOp .sub _ _ _ _, _, _, _, _⟩ _ _ _; first | refine Az hG Y Y Y Y Y (by omega) ?_)
      | (show AOp _ _ ⟨_, .binOp .mul _ _ _ _, _, _, _, _⟩ _ _ _; first | refine Az hG Y Y Y Y Y (by omega) ?_)
      | (show AOp _ _ ⟨_, .binOp .shr _ _ _ _, _, _, _, _⟩ _ _ _; refine r_shr hG Y Y Y Y (by omega) ?_)
      | (show AOp _ _ ⟨_, .binOp _ _ _ _ _, _, _, _, _⟩ _ _ _; first | refine Av hG Y Y Y Y Y (by omega) ?_ | refine Aw hG Y Y Y Y Y (by omega) ?_ | (refine Au hG Y Y Y Y Y (fun h => ?_) (fun h => ?_)))
      | (show AOp _ _ ⟨_, .convert _ _ _, _, _, _, _⟩ _ _ _; first | refine r_cv_u64 hG Y Y Y Y Y (by omega) ?_ | refine r_cv_u8 hG Y Y Y Y Y (by omega) ?_ | refine B0 hG Y Y Y Y Y ?_)
      | (show AOp _ _ ⟨_, .pick _ _ _, _, _, _, _⟩ _ _ _; refine Br hG Y Y Y ?_)
      | (show AOp _ _ ⟨_, .buildSlice _ _ _, _, _, _, _⟩ _ _ _; first | refine r_mk (sz := 1) hG Y Y Y Y Y Y Y ?_)
      | (show AOp _ _ ⟨_, .call ⟨.builtin .append, _, _⟩, _, _, _, _⟩ _ _ _; first | refine Bz (sz := 1) (xs := []) hG Y Y Y Y Y Y Y ⟨_, Y⟩ Y Y Y Y Y Y Y (by first | omega | (simp; omega)) (fun k => ?_) | refine B3 0 hG Y Y Y Y Y Y Y ⟨_, Y⟩ Y Y Y Y Y (by first | omega | (simp only [List.length_append, List.length_cons, List.length_nil]; omega)) (fun k => ?_) | fail)
      | (show AOp _ _ ⟨_, .call ⟨.value _, _, _⟩, _, _, _, _⟩ _ _ _; first | (refine r_owns Y Y Y Y Y (by apply clone_b <;> (first | assumption | omega | exact Ac _ _ | exact Ae _ | exact Ag _ _ | exact Ap _ | rfl | (simp; omega))) (fun k => ?_)) | (have := kk; clear this; refine Bc Y Y Y Y Y (Owns.pure (by apply clone_b <;> (first | assumption | omega | exact Ac _ _ | exact Ae _ | exact Ag _ _ | exact Ap _ | rfl | (simp; omega)))) ?_) | fail)
      | refine r_q hG Y Y Y ?_))
    | (show AL _ _ _ _ _ _ _ _; first | refine Bn Y Y Y ?_ | (refine As ?_; first | show AW _ _ _ _ _ _ | show ∃ x', _ < _ ∧ _)) | (show AW _ _ (.seq _ _) _ _ _; refine Ah ?_; intro Q1) | (show AW _ _ (.region _ _ false) _ _ _; refine Ad ?_; intro O1) | (show AW _ _ (.cond _ _ _) _ _ _; first | refine Aj Y ?_ | refine Ai Y ?_) | (show AW _ _ (.skip) _ _ _; refine Am ?_; first | show AW _ _ _ _ _ _ | show ∃ x', _ < _ ∧ _) | (show AW _ _ (.goto _) _ _ _; refine Bm ?_; try dsimp only [Al, Aa, Ak, Ab]) | (show AW _ _ (.ret) _ _ _; refine Ar ?_; try dsimp only [Al, Aa, Ak, Ab]) | fail)
    · exact ret_owns 0 (Ao rfl A8) rfl (by rw [putI, if_neg (by omega), List.append_nil]) rfl
    · exact ret_owns 0 (Ao rfl A8) rfl (by rw [putI, if_neg (by omega), List.append_nil]) rfl
    · refine aw_label ?_
      show AW _ _ _ _ _ _
      refine aw_forget ?_ (key ⟨by omega, n.toNat, [], k, by omega, rfl⟩)
      exact .cons rfl (.consW rfl (.eq (by simp)) (.consW rfl (.int (by simp; omega)) (.nil _)))

def beV (l : List UInt8) : Nat := l.foldl (fun a x => a * 256 + x.toNat) 0
theorem beV_snoc (l : List UInt8) (x : UInt8) : beV (l ++ [x]) = beV l * 256 + x.toNat := by simp [beV]
theorem beV_lt : ∀ n (l : List UInt8), l.length = n → beV l < 2 ^ (8 * n) := by
  intro n
  induction n with
  | zero => intro l h; simp at h; subst h; simp [beV]
  | succ n ih =>
    intro l h
    have hne : l ≠ [] := by intro h0; subst h0; simp at h
    have h1 : l = l.dropLast ++ [l.getLast hne] := (List.dropLast_concat_getLast hne).symm
    rw [h1, beV_snoc]
    have h2 := ih l.dropLast (by simp [h])
    have h3 : (l.getLast hne).toNat < 256 := UInt8.toNat_lt _
    have h4 : 2 ^ (8 * (n + 1)) = 2 ^ (8 * n) * 256 := by rw [show 8 * (n + 1) = 8 * n + 8 by omega, Nat.pow_add]
    rw [h4]; omega
theorem or_byte (v x : Nat) (hv : v * 256 < 2 ^ 64) (hx : x < 256) :
    IntKind.u64.wrap ((BitVec.ofInt IntKind.u64.bits (IntKind.u64.wrap ((v : Int) * 2 ^ (min (Int.toNat 8) IntKind.u64.bits))) ||| BitVec.ofInt IntKind.u64.bits (x : Int)).toNat) = ((v * 256 + x : Nat) : Int) := by
  have h8 : (2 : Int) ^ (min (Int.toNat 8) IntKind.u64.bits) = 256 := by simp [IntKind.bits]
  rw [h8, u64_in (n := (v : Int) * 256) (by omega) (by omega)]
  have e1 : BitVec.ofInt IntKind.u64.bits ((v : Int) * 256) = BitVec.ofNat 64 (v * 256) := by
    show BitVec.ofInt 64 _ = _
    rw [show (v : Int) * 256 = ((v * 256 : Nat) : Int) by simp, BitVec.ofInt_natCast]
  have e2 : BitVec.ofInt IntKind.u64.bits (x : Int) = BitVec.ofNat 64 x := by
    show BitVec.ofInt 64 _ = _
    rw [BitVec.ofInt_natCast]
  rw [e1, e2]
  have e3 : (BitVec.ofNat 64 (v * 256) ||| BitVec.ofNat 64 x).toNat = v * 256 + x := by
    rw [BitVec.toNat_or, BitVec.toNat_ofNat, BitVec.toNat_ofNat, Nat.mod_eq_of_lt hv, Nat.mod_eq_of_lt (by omega)]
    have := Nat.two_pow_add_eq_or_of_lt (i := 8) hx v
    rw [Nat.mul_comm v 256]
    exact this.symm
  have e4 : ((BitVec.ofNat 64 (v * 256) ||| BitVec.ofNat 64 x).toNat : Int) = ((v * 256 + x : Nat) : Int) := by rw [e3]
  refine (congrArg IntKind.u64.wrap e4).trans ?_
  rw [u64_in (by omega) (by omega)]
def takeE (b : List UInt8) (n : Int) : Nat × Int := if n < 0 ∨ 8 < n then (0, 1) else if (b.length : Int) < n then (0, 3) else (beV (b.take n.toNat), 0)
theorem take_step (b : List UInt8) (i : Nat) (hi : i < b.length) (h8 : i < 8) :
    IntKind.u64.wrap ((BitVec.ofInt IntKind.u64.bits (IntKind.u64.wrap ((beV (b.take i) : Int) * 2 ^ (min (Int.toNat 8) IntKind.u64.bits))) ||| BitVec.ofInt IntKind.u64.bits ((b.getD i default).toNat : Int)).toNat) = ((beV (b.take (i + 1)) : Nat) : Int) := by
  have hlt : beV (b.take i) < 2 ^ (8 * i) := beV_lt i _ (by simp; omega)
  have hpow : 2 ^ (8 * i) ≤ 2 ^ 56 := Nat.pow_le_pow_right (by omega) (by omega)
  have htk : b.take (i + 1) = b.take i ++ [b.getD i default] := by rw [List.take_succ_eq_append_getElem hi]; simp [List.getElem?_eq_getElem hi]
  rw [htk, beV_snoc]
  exact or_byte _ _ (by omega) (b.getD i default).toNat_lt

structure TakeX (b : List UInt8) (n : Int) where
  i : Nat
  hn : 0 ≤ n ∧ n ≤ 8 ∧ n ≤ b.length
  hi : i ≤ n.toNat
theorem num_Take {x : T} {b : List UInt8} {n : Int} (hx : bytesT x = some b) : Pure Try.prog 48 [x, .int .i64 n] (.tup [.int .u64 (takeE b n).1, .int .i64 (takeE b n).2]) := by
  refine Pure.weak (us := [sT b, .int .i64 n]) ?_ (wk2 (bytesT_wk hx) (.refl _))
  intro off
  refine Bv (N := 33) (rs := [.tmp 4, .tmp 5]) hG Try.func48 rfl rfl rfl rfl rfl ?_
  repeat' (first
    | ((show AL _ _ _ _ _ _ _ _; refine Af Y ?_); (first
      | (show AOp _ _ ⟨_, .move _, _, _, _, _⟩ _ _ _; refine Aq hG Y Y ?_)
      | (show AOp _ _ ⟨_, .assign _, _, _, _, _⟩ _ _ _; refine A7 hG Y Y ?_)
      | (show AOp _ _ ⟨_, .call ⟨.builtin .len, _, _⟩, _, _, _, _⟩ _ _ _; first | refine Ay hG Y Y Y Y ?_ | refine Bf hG Y Y Y Y Y ?_)
      | (show AOp _ _ ⟨_, .binOp .add _ _ _ _, _, _, _, _⟩ _ _ _; first | refine Az hG Y Y Y Y Y (by omega) ?_)
      | (show AOp _ _ ⟨_, .binOp .shl _ _ _ _, _, _, _, _⟩ _ _ _; refine r_shl hG Y Y Y Y (by omega) ?_)
      | (show AOp _ _ ⟨_, .binOp _ _ _ _ _, _, _, _, _⟩ _ _ _; first | refine Av hG Y Y Y Y Y (by omega) ?_ | refine Aw hG Y Y Y Y Y (by omega) ?_ | (refine Au hG Y Y Y Y Y (fun h => ?_) (fun h => ?_)) | refine r_bin' hG Y Y Y ?_)
      | (show AOp _ _ ⟨_, .load _ _, _, _, _, _⟩ _ _ _; first | refine Bk hG Y Y Y ?_ | refine A9 0 hG Y Y Y Y ?_)
      | (show AOp _ _ ⟨_, .indexAddr _ _ _, _, _, _, _⟩ _ _ _; first | refine Bj hG Y Y Y Y Y Y Y (by omega) ?_ | refine Bi hG Y Y Y Y Y Y Y (by omega) ?_ | refine Bw hG Y Y ?_)
      | (show AOp _ _ ⟨_, .convert _ _ _, _, _, _, _⟩ _ _ _; first | refine r_cv8 hG Y Y Y Y Y Y ?_ | refine r_cv_u64 hG Y Y Y Y Y (by omega) ?_ | refine B0 hG Y Y Y Y Y ?_)
      | (show AOp _ _ ⟨_, .pick _ _ _, _, _, _, _⟩ _ _ _; refine Br hG Y Y Y ?_)
      | refine r_q hG Y Y Y ?_))
    | (show AL _ _ _ _ _ _ _ _; first | refine Bn Y Y Y ?_ | (refine As ?_; first | show AW _ _ _ _ _ _ | show ∃ x', _ < _ ∧ _)) | (show AW _ _ (.seq _ _) _ _ _; refine Ah ?_; intro Q1) | (show AW _ _ (.region _ _ false) _ _ _; refine Ad ?_; intro O1) | (show AW _ _ (.cond _ _ _) _ _ _; first | refine Aj Y ?_ | refine Ai Y ?_) | (show AW _ _ (.skip) _ _ _; refine Am ?_; first | show AW _ _ _ _ _ _ | show ∃ x', _ < _ ∧ _) | (show AW _ _ (.block _ _) _ _ _; refine Ba ?_; intro Q1) | (show AW _ _ (.goto _) _ _ _; refine Bm ?_; try dsimp only [Al, Aa, Ak, Ab]) | (show AW _ _ (.ret) _ _ _; refine Ar ?_; try dsimp only [Al, Aa, Ak, Ab]) | fail)
  refine aw_scope' 0 rfl (X := TakeX b n) (fun x => [(0, sT b), (1, .int .i64 n), (4, .int .u64 (beV (b.take x.i))), (6, .int .i64 x.i)]) (fun x => ⟨[], [], off, none⟩) (fun x => n.toNat - x.i) ?_ ?_
  · rintro ⟨i, hn, hi⟩
    dsimp only
    repeat' (first
    | ((show AL _ _ _ _ _ _ _ _; refine Af Y ?_); (first
      | (show AOp _ _ ⟨_, .move _, _, _, _, _⟩ _ _ _; refine Aq hG Y Y ?_)
      | (show AOp _ _ ⟨_, .assign _, _, _, _, _⟩ _ _ _; refine A7 hG Y Y ?_)
      | (show AOp _ _ ⟨_, .call ⟨.builtin .len, _, _⟩, _, _, _, _⟩ _ _ _; first | refine Ay hG Y Y Y Y ?_ | refine Bf hG Y Y Y Y Y ?_)
      | (show AOp _ _ ⟨_, .binOp .add _ _ _ _, _, _, _, _⟩ _ _ _; first | refine Az hG Y Y Y Y Y (by omega) ?_)
      | (show AOp _ _ ⟨_, .binOp .shl _ _ _ _, _, _, _, _⟩ _ _ _; refine r_shl hG Y Y Y Y (by omega) ?_)
      | (show AOp _ _ ⟨_, .binOp _ _ _ _ _, _, _, _, _⟩ _ _ _; first | refine Av hG Y Y Y Y Y (by omega) ?_ | refine Aw hG Y Y Y Y Y (by omega) ?_ | (refine Au hG Y Y Y Y Y (fun h => ?_) (fun h => ?_)) | refine r_bin' hG Y Y Y ?_)
      | (show AOp _ _ ⟨_, .load _ _, _, _, _, _⟩ _ _ _; first | refine Bk hG Y Y Y ?_ | refine A9 0 hG Y Y Y Y ?_)
      | (show AOp _ _ ⟨_, .indexAddr _ _ _, _, _, _, _⟩ _ _ _; first | refine Bj hG Y Y Y Y Y Y Y (by omega) ?_ | refine Bi hG Y Y Y Y Y Y Y (by omega) ?_ | refine Bw hG Y Y ?_)
      | (show AOp _ _ ⟨_, .convert _ _ _, _, _, _, _⟩ _ _ _; first | refine r_cv8 hG Y Y Y Y Y Y ?_ | refine r_cv_u64 hG Y Y Y Y Y (by omega) ?_ | refine B0 hG Y Y Y Y Y ?_)
      | (show AOp _ _ ⟨_, .pick _ _ _, _, _, _, _⟩ _ _ _; refine Br hG Y Y Y ?_)
      | refine r_q hG Y Y Y ?_))
    | (show AL _ _ _ _ _ _ _ _; first | refine Bn Y Y Y ?_ | (refine As ?_; first | show AW _ _ _ _ _ _ | show ∃ x', _ < _ ∧ _)) | (show AW _ _ (.seq _ _) _ _ _; refine Ah ?_; intro Q1) | (show AW _ _ (.region _ _ false) _ _ _; refine Ad ?_; intro O1) | (show AW _ _ (.cond _ _ _) _ _ _; first | refine Aj Y ?_ | refine Ai Y ?_) | (show AW _ _ (.skip) _ _ _; refine Am ?_; first | show AW _ _ _ _ _ _ | show ∃ x', _ < _ ∧ _) | (show AW _ _ (.block _ _) _ _ _; refine Ba ?_; intro Q1) | (show AW _ _ (.goto _) _ _ _; refine Bm ?_; try dsimp only [Al, Aa, Ak, Ab]) | (show AW _ _ (.ret) _ _ _; refine Ar ?_; try dsimp only [Al, Aa, Ak, Ab]) | fail)
    · refine ⟨rfl, ⟨i + 1, hn, by omega⟩, by dsimp only; omega, ?_, .refl _⟩
      exact .cons rfl (.cons rfl (.consW rfl (.int (take_step b i (by omega) (by omega))) (.consW rfl (.int (by simp)) (.nil _))))
    · refine Be (Ao rfl (Ao rfl A8)) (.eq ?_) rfl
      have : i = n.toNat := by omega
      subst this
      rw [takeE, if_neg (by omega), if_neg (by omega)]; rfl
  · intro key
    repeat' (first
    | ((show AL _ _ _ _ _ _ _ _; refine Af Y ?_); (first
      | (show AOp _ _ ⟨_, .move _, _, _, _, _⟩ _ _ _; refine Aq hG Y Y ?_)
      | (show AOp _ _ ⟨_, .assign _, _, _, _, _⟩ _ _ _; refine A7 hG Y Y ?_)
      | (show AOp _ _ ⟨_, .call ⟨.builtin .len, _, _⟩, _, _, _, _⟩ _ _ _; first | refine Ay hG Y Y Y Y ?_ | refine Bf hG Y Y Y Y Y ?_)
      | (show AOp _ _ ⟨_, .binOp .add _ _ _ _, _, _, _, _⟩ _ _ _; first | refine Az hG Y Y Y Y Y (by omega) ?_)
      | (show AOp _ _ ⟨_, .binOp .shl _ _ _ _, _, _, _, _⟩ _ _ _; refine r_shl hG Y Y Y Y (by omega) ?_)
      | (show AOp _ _ ⟨_, .binOp _ _ _ _ _, _, _, _, _⟩ _ _ _; first | refine Av hG Y Y Y Y Y (by omega) ?_ | refine Aw hG Y Y Y Y Y (by omega) ?_ | (refine Au hG Y Y Y Y Y (fun h => ?_) (fun h => ?_)) | refine r_bin' hG Y Y Y ?_)
      | (show AOp _ _ ⟨_, .load _ _, _, _, _, _⟩ _ _ _; first | refine Bk hG Y Y Y ?_ | refine A9 0 hG Y Y Y Y ?_)
      | (show AOp _ _ ⟨_, .indexAddr _ _ _, _, _, _, _⟩ _ _ _; first | refine Bj hG Y Y Y Y Y Y Y (by omega) ?_ | refine Bi hG Y Y Y Y Y Y Y (by omega) ?_ | refine Bw hG Y Y ?_)
      | (show AOp _ _ ⟨_, .convert _ _ _, _, _, _, _⟩ _ _ _; first | refine r_cv8 hG Y Y Y Y Y Y ?_ | refine r_cv_u64 hG Y Y Y Y Y (by omega) ?_ | refine B0 hG Y Y Y Y Y ?_)
      | (show AOp _ _ ⟨_, .pick _ _ _, _, _, _, _⟩ _ _ _; refine Br hG Y Y Y ?_)
      | refine r_q hG Y Y Y ?_))
    | (show AL _ _ _ _ _ _ _ _; first | refine Bn Y Y Y ?_ | (refine As ?_; first | show AW _ _ _ _ _ _ | show ∃ x', _ < _ ∧ _)) | (show AW _ _ (.seq _ _) _ _ _; refine Ah ?_; intro Q1) | (show AW _ _ (.region _ _ false) _ _ _; refine Ad ?_; intro O1) | (show AW _ _ (.cond _ _ _) _ _ _; first | refine Aj Y ?_ | refine Ai Y ?_) | (show AW _ _ (.skip) _ _ _; refine Am ?_; first | show AW _ _ _ _ _ _ | show ∃ x', _ < _ ∧ _) | (show AW _ _ (.block _ _) _ _ _; refine Ba ?_; intro Q1) | (show AW _ _ (.goto _) _ _ _; refine Bm ?_; try dsimp only [Al, Aa, Ak, Ab]) | (show AW _ _ (.ret) _ _ _; refine Ar ?_; try dsimp only [Al, Aa, Ak, Ab]) | fail)
    · exact Be (Ao rfl (Ao rfl A8)) (.eq (by rw [takeE, if_pos (by omega)]; rfl)) rfl
    · exact Be (Ao rfl (Ao rfl A8)) (.eq (by rw [takeE, if_pos (by omega)]; rfl)) rfl
    · exact Be (Ao rfl (Ao rfl A8)) (.eq (by rw [takeE, if_neg (by omega), if_pos (by omega)]; rfl)) rfl
    · refine aw_label ?_
      show AW _ _ _ _ _ _
      refine aw_forget ?_ (key ⟨0, ⟨by omega, by omega, by omega⟩, by omega⟩)
      exact .cons rfl (.cons rfl (.consW rfl (.int (by simp [beV])) (.consW rfl (.int rfl) (.nil _))))
end Go.Proofs.Ytholeicgmkjadaa
namespace Go.Proofs.Ytholeicgmkjadaa
open Go.Ts
attribute [local irreducible] Go.Ts.AW Go.Ts.AOps Go.Ts.AL Go.Ts.AOp Go.Ts.ACalls Go.Ts.DL
theorem grow_nil {n : Int} (hn : 0 ≤ n ∧ n ≤ 4294967296) : Owns Try.prog 79 [.nilsl, .int .i64 n] 1 [] := by
  intro off
  refine Bv (N := 27) (rs := [.tmp 4]) hG Try.func79 rfl rfl rfl rfl rfl ?_
  repeat' (first
    | ((show AL _ _ _ _ _ _ _ _; refine Af Y ?_); (first
      | (show AOp _ _ ⟨_, .move _, _, _, _, _⟩ _ _ _; refine Aq hG Y Y ?_)
      | (show AOp _ _ ⟨_, .assign _, _, _, _, _⟩ _ _ _; refine A7 hG Y Y ?_)
      | (show AOp _ _ ⟨_, .call ⟨.builtin .len, _, _⟩, _, _, _, _⟩ _ _ _; first | refine Ay hG Y Y Y Y ?_ | refine Bf hG Y Y Y Y Y ?_)
      | (show AOp _ _ ⟨_, .binOp .sub _ _ _ _, _, _, _, _⟩ _ _ _; first | refine Az hG Y Y Y Y Y (by omega) ?_)
      | (show AOp _ _ ⟨_, .binOp _ _ _ _ _, _, _, _, _⟩ _ _ _; first | refine Av hG Y Y Y Y Y (by omega) ?_ | refine Aw hG Y Y Y Y Y (by omega) ?_ | (refine Au hG Y Y Y Y Y (fun h => ?_) (fun h => ?_)))
      | (show AOp _ _ ⟨_, .slice _ _ _ _ _, _, _, _, _⟩ _ _ _; first | refine r_sl_hin hG Y Y Y Y Y Y Y (by omega) ?_ | refine r_sl_hi hG Y Y Y Y Y Y Y (by omega) ?_ | refine op_cut0 hG Y Y Y Y Y Y Y Y Y Y ?_ | refine r_sl hG Y Y ?_)
      | (show AOp _ _ ⟨_, .call ⟨.builtin .append, _, _⟩, _, _, _, _⟩ _ _ _; first | refine Bz (sz := 1) (xs := []) hG Y Y Y Y Y Y Y ⟨_, Y⟩ Y Y Y Y Y Y Y (by first | omega | (simp; omega)) (fun k => ?_) | refine B3 0 hG Y Y Y Y Y Y Y ⟨_, Y⟩ Y Y Y Y Y (by first | omega | (simp only [List.length_append, List.length_cons, List.length_nil]; omega)) (fun k => ?_) | fail)
      | refine r_q hG Y Y Y ?_))
    | (show AL _ _ _ _ _ _ _ _; first | refine Bn Y Y Y ?_ | (refine As ?_; first | show AW _ _ _ _ _ _ | show ∃ x', _ < _ ∧ _)) | (show AW _ _ (.seq _ _) _ _ _; refine Ah ?_; intro Q1) | (show AW _ _ (.region _ _ false) _ _ _; refine Ad ?_; intro O1) | (show AW _ _ (.cond _ _ _) _ _ _; first | refine Aj Y ?_ | refine Ai Y ?_) | (show AW _ _ (.skip) _ _ _; refine Am ?_; first | show AW _ _ _ _ _ _ | show ∃ x', _ < _ ∧ _) | (show AW _ _ (.ret) _ _ _; refine Ar ?_; try dsimp only [Al, Aa, Ak, Ab]) | fail)
  · refine Af rfl (op_zeros hG rfl rfl rfl rfl rfl rfl rfl rfl rfl rfl rfl (by omega) (fun i cap hc => ?_))
    repeat' (first
    | ((show AL _ _ _ _ _ _ _ _; refine Af Y ?_); (first
      | (show AOp _ _ ⟨_, .move _, _, _, _, _⟩ _ _ _; refine Aq hG Y Y ?_)
      | (show AOp _ _ ⟨_, .assign _, _, _, _, _⟩ _ _ _; refine A7 hG Y Y ?_)
      | (show AOp _ _ ⟨_, .call ⟨.builtin .len, _, _⟩, _, _, _, _⟩ _ _ _; first | refine Ay hG Y Y Y Y ?_ | refine Bf hG Y Y Y Y Y ?_)
      | (show AOp _ _ ⟨_, .binOp .sub _ _ _ _, _, _, _, _⟩ _ _ _; first | refine Az hG Y Y Y Y Y (by omega) ?_)
      | (show AOp _ _ ⟨_, .binOp _ _ _ _ _, _, _, _, _⟩ _ _ _; first | refine Av hG Y Y Y Y Y (by omega) ?_ | refine Aw hG Y Y Y Y Y (by omega) ?_ | (refine Au hG Y Y Y Y Y (fun h => ?_) (fun h => ?_)))
      | (show AOp _ _ ⟨_, .slice _ _ _ _ _, _, _, _, _⟩ _ _ _; first | refine r_sl_hin hG Y Y Y Y Y Y Y (by omega) ?_ | refine r_sl_hi hG Y Y Y Y Y Y Y (by omega) ?_ | refine op_cut0 hG Y Y Y Y Y Y Y Y Y Y ?_ | refine r_sl hG Y Y ?_)
      | (show AOp _ _ ⟨_, .call ⟨.builtin .append, _, _⟩, _, _, _, _⟩ _ _ _; first | refine Bz (sz := 1) (xs := []) hG Y Y Y Y Y Y Y ⟨_, Y⟩ Y Y Y Y Y Y Y (by first | omega | (simp; omega)) (fun k => ?_) | refine B3 0 hG Y Y Y Y Y Y Y ⟨_, Y⟩ Y Y Y Y Y (by first | omega | (simp only [List.length_append, List.length_cons, List.length_nil]; omega)) (fun k => ?_) | fail)
      | refine r_q hG Y Y Y ?_))
    | (show AL _ _ _ _ _ _ _ _; first | refine Bn Y Y Y ?_ | (refine As ?_; first | show AW _ _ _ _ _ _ | show ∃ x', _ < _ ∧ _)) | (show AW _ _ (.seq _ _) _ _ _; refine Ah ?_; intro Q1) | (show AW _ _ (.region _ _ false) _ _ _; refine Ad ?_; intro O1) | (show AW _ _ (.cond _ _ _) _ _ _; first | refine Aj Y ?_ | refine Ai Y ?_) | (show AW _ _ (.skip) _ _ _; refine Am ?_; first | show AW _ _ _ _ _ _ | show ∃ x', _ < _ ∧ _) | fail)
    refine aw_room 0 4 rfl rfl rfl rfl (fun k => ?_)
    exact Ar (ret_owns 0 (Ao rfl A8) rfl rfl rfl)
  · exact ret_owns0 (sz := 1) (Ao rfl A8) rfl rfl rfl rfl

def lettersOf : List T → Option (List (List UInt8))
  | [] => some []
  | t :: r => match bytesT t, lettersOf r with
    | some b, some s => some (b :: s)
    | _, _ => none
theorem lettersOf_map : ∀ (l : List (List UInt8)), lettersOf (l.map sT) = some l
  | [] => rfl
  | x :: l => by simp only [List.map_cons, lettersOf, Ae, lettersOf_map l]
theorem bytesT_scalar {t : T} {b : List UInt8} (h : bytesT t = some b) : t.scalar = true := by
  unfold bytesT at h
  split at h
  · rfl
  · rfl
  · cases h
theorem lettersOf_wk : ∀ {xs : List T} {l : List (List UInt8)}, lettersOf xs = some l → xs.length = l.length ∧ ∀ (i : Nat) (x : T) (b : List UInt8), xs[i]? = some x → l[i]? = some b → x.scalar = true ∧ Wk x (sT b)
  | [], l, h => by simp [lettersOf] at h; subst h; exact ⟨rfl, fun i x b h => by simp at h⟩
  | t :: xs, l, h => by
    simp only [lettersOf] at h
    split at h
    · rename_i b s hb hs
      injection h with h; subst h
      obtain ⟨h1, h2⟩ := lettersOf_wk hs
      refine ⟨by simp [h1], fun i x c hx hc => ?_⟩
      cases i with
      | zero => simp at hx hc; subst hx; subst hc; exact ⟨bytesT_scalar hb, bytesT_wk hb⟩
      | succ i => exact h2 i x c (by simpa using hx) (by simpa using hc)
    · cases h
def lettersT : T → Option (List (List UInt8))
  | .nilsl => some []
  | .sl 1 _ xs => lettersOf xs
  | _ => none
def lT (l : List (List UInt8)) : T := .sl 1 .no (l.map sT)
theorem lettersT_map (own : Own) (l : List (List UInt8)) : lettersT (.sl 1 own (l.map sT)) = some l := lettersOf_map l
theorem lettersT_l (l : List (List UInt8)) : lettersT (lT l) = some l := lettersOf_map l
theorem lettersT_wk {x : T} {l : List (List UInt8)} (h : lettersT x = some l) : Wk x (lT l) := by
  unfold lettersT at h
  split at h
  · injection h with h; subst h; exact Wk.nil 1
  · rename_i own xs
    obtain ⟨h1, h2⟩ := lettersOf_wk h
    refine (Wk.own 1 own xs).trans (Wk.list (by simpa using h1) fun i x y hx hy => ?_)
    rw [List.getElem?_map] at hy
    cases hl : l[i]? with
    | none => rw [hl] at hy; cases hy
    | some b =>
      rw [hl] at hy; injection hy with hy; subst hy
      obtain ⟨h3, h4⟩ := h2 i x b hx hl
      exact ⟨h3, rfl, h4⟩
  · cases h
instance : Enc lT 1 := ⟨fun x c h => by simp [lT, T.cells] at h; subst h; rfl, fun x => rfl⟩

def total (bs : List (List UInt8)) : Nat := (bs.map List.length).sum
theorem total_snoc (bs : List (List UInt8)) (b : List UInt8) : total (bs ++ [b]) = total bs + b.length := by simp [total]
theorem total_take_le (bs : List (List UInt8)) (i : Nat) : total (bs.take i) ≤ total bs := by
  have h : total bs = total (bs.take i) + total (bs.drop i) := by
    conv => lhs; rw [← List.take_append_drop i bs]
    simp only [total, List.map_append, List.sum_append]
  omega
theorem flatten_length (bs : List (List UInt8)) : bs.flatten.length = total bs := by simp [total, List.length_flatten]
theorem take_getD {α : Type} [Inhabited α] (l : List α) (i : Nat) (h : i < l.length) : l.take (i + 1) = l.take i ++ [l.getD i default] := by
  rw [List.take_succ_eq_append_getElem h]; simp [List.getElem?_eq_getElem h]

structure CatX (bs : List (List UInt8)) where
  i : Nat
  hi : i ≤ bs.length
structure CatY (bs : List (List UInt8)) where
  i : Nat
  k : Nat
  hi : i ≤ bs.length
theorem concat_b {x : T} {bs : List (List UInt8)} (hx : lettersT x = some bs) (hb : total bs ≤ 4294967200) (hn : bs.length ≤ 4294967296) :
    Owns Try.prog 56 [x] 1 (bs.flatten.map bT) := by
  refine Owns.weak (us := [lT bs]) ?_ (wk1 (lettersT_wk hx))
  intro off
  refine Bv (N := 36) (rs := [.tmp 2]) hG Try.func56 rfl rfl rfl rfl rfl ?_
  repeat' (first
    | ((show AL _ _ _ _ _ _ _ _; refine Af Y ?_); (first
      | (show AOp _ _ ⟨_, .move _, _, _, _, _⟩ _ _ _; refine Aq hG Y Y ?_)
      | (show AOp _ _ ⟨_, .assign _, _, _, _, _⟩ _ _ _; refine A7 hG Y Y ?_)
      | (show AOp _ _ ⟨_, .call ⟨.builtin .len, _, _⟩, _, _, _, _⟩ _ _ _; first | refine Ay hG Y Y Y Y ?_ | refine Bf hG Y Y Y Y Y ?_)
      | (show AOp _ _ ⟨_, .binOp .add _ _ _ _, _, _, _, _⟩ _ _ _; first | refine Az hG Y Y Y Y Y (by omega) ?_)
      | (show AOp _ _ ⟨_, .binOp _ _ _ _ _, _, _, _, _⟩ _ _ _; first | refine Av hG Y Y Y Y Y (by omega) ?_ | refine Aw hG Y Y Y Y Y (by omega) ?_ | (refine Au hG Y Y Y Y Y (fun h => ?_) (fun h => ?_)))
      | (show AOp _ _ ⟨_, .load _ _, _, _, _, _⟩ _ _ _; first | refine Bk hG Y Y Y ?_ | refine A9 0 hG Y Y Y Y ?_)
      | (show AOp _ _ ⟨_, .indexAddr _ _ _, _, _, _, _⟩ _ _ _; first | refine Bj hG Y Y Y Y Y Y Y (by omega) ?_ | refine Bi hG Y Y Y Y Y Y Y (by omega) ?_ | refine Bw hG Y Y ?_)
      | (show AOp _ _ ⟨_, .call ⟨.builtin .append, _, _⟩, _, _, _, _⟩ _ _ _; first | refine Bz (sz := 1) (xs := []) hG Y Y Y Y Y Y Y ⟨_, Y⟩ Y Y Y Y Y Y Y (by first | omega | (simp; omega)) (fun k => ?_) | refine B3 0 hG Y Y Y Y Y Y Y ⟨_, Y⟩ Y Y Y Y Y (by first | omega | (simp only [List.length_append, List.length_cons, List.length_nil]; omega)) (fun k => ?_) | fail)
      | refine r_q hG Y Y Y ?_))
    | (show AL _ _ _ _ _ _ _ _; first | refine Bn Y Y Y ?_ | (refine As ?_; first | show AW _ _ _ _ _ _ | show ∃ x', _ < _ ∧ _)) | (show AW _ _ (.seq _ _) _ _ _; refine Ah ?_; intro Q1) | (show AW _ _ (.region _ _ false) _ _ _; refine Ad ?_; intro O1) | (show AW _ _ (.cond _ _ _) _ _ _; first | refine Aj Y ?_ | refine Ai Y ?_) | (show AW _ _ (.skip) _ _ _; refine Am ?_; first | show AW _ _ _ _ _ _ | show ∃ x', _ < _ ∧ _) | (show AW _ _ (.block _ _) _ _ _; refine Ba ?_; intro Q1) | (show AW _ _ (.exit _) _ _ _; refine B4 ?_; first | show AW _ _ _ _ _ _ | show ∃ x', _ < _ ∧ _) | (show AW _ _ (.ret) _ _ _; refine Ar ?_; try dsimp only [Al, Aa, Ak, Ab]) | fail)
  refine aw_loop (X := CatX bs) (fun x => [(0, lT bs), (9, lT bs), (10, .int .i64 bs.length), (11, .int .i64 x.i), (3, .int .i64 (total (bs.take x.i)))]) (fun x => ⟨[], [], off, none⟩) (fun x => bs.length - x.i) ⟨0, Nat.zero_le _⟩ ?_ (.refl _) ?_
  · exact .cons rfl (.cons rfl (.consW rfl (.int (by simp)) (.consW rfl (.int rfl) (.consW rfl (.int (by simp [total])) (.nil _)))))
  rintro ⟨i, hi⟩
  dsimp only
  have hle := total_take_le bs i
  by_cases hib : i < bs.length
  · have htk := take_getD bs i hib
    have hle2 := total_take_le bs (i + 1)
    rw [htk, total_snoc] at hle2
    repeat' (first
    | ((show AL _ _ _ _ _ _ _ _; refine Af Y ?_); (first
      | (show AOp _ _ ⟨_, .move _, _, _, _, _⟩ _ _ _; refine Aq hG Y Y ?_)
      | (show AOp _ _ ⟨_, .assign _, _, _, _, _⟩ _ _ _; refine A7 hG Y Y ?_)
      | (show AOp _ _ ⟨_, .call ⟨.builtin .len, _, _⟩, _, _, _, _⟩ _ _ _; first | refine Ay hG Y Y Y Y ?_ | refine Bf hG Y Y Y Y Y ?_)
      | (show AOp _ _ ⟨_, .binOp .add _ _ _ _, _, _, _, _⟩ _ _ _; first | refine Az hG Y Y Y Y Y (by omega) ?_)
      | (show AOp _ _ ⟨_, .binOp _ _ _ _ _, _, _, _, _⟩ _ _ _; first | refine Av hG Y Y Y Y Y (by omega) ?_ | refine Aw hG Y Y Y Y Y (by omega) ?_ | (refine Au hG Y Y Y Y Y (fun h => ?_) (fun h => ?_)))
      | (show AOp _ _ ⟨_, .load _ _, _, _, _, _⟩ _ _ _; first | refine Bk hG Y Y Y ?_ | refine A9 0 hG Y Y Y Y ?_)
      | (show AOp _ _ ⟨_, .indexAddr _ _ _, _, _, _, _⟩ _ _ _; first | refine Bj hG Y Y Y Y Y Y Y (by omega) ?_ | refine Bi hG Y Y Y Y Y Y Y (by omega) ?_ | refine Bw hG Y Y ?_)
      | (show AOp _ _ ⟨_, .call ⟨.builtin .append, _, _⟩, _, _, _, _⟩ _ _ _; first | refine Bz (sz := 1) (xs := []) hG Y Y Y Y Y Y Y ⟨_, Y⟩ Y Y Y Y Y Y Y (by first | omega | (simp; omega)) (fun k => ?_) | refine B3 0 hG Y Y Y Y Y Y Y ⟨_, Y⟩ Y Y Y Y Y (by first | omega | (simp only [List.length_append, List.length_cons, List.length_nil]; omega)) (fun k => ?_) | fail)
      | refine r_q hG Y Y Y ?_))
    | (show AL _ _ _ _ _ _ _ _; first | refine Bn Y Y Y ?_ | (refine As ?_; first | show AW _ _ _ _ _ _ | show ∃ x', _ < _ ∧ _)) | (show AW _ _ (.seq _ _) _ _ _; refine Ah ?_; intro Q1) | (show AW _ _ (.region _ _ false) _ _ _; refine Ad ?_; intro O1) | (show AW _ _ (.cond _ _ _) _ _ _; first | refine Aj Y ?_ | refine Ai Y ?_) | (show AW _ _ (.skip) _ _ _; refine Am ?_; first | show AW _ _ _ _ _ _ | show ∃ x', _ < _ ∧ _) | (show AW _ _ (.block _ _) _ _ _; refine Ba ?_; intro Q1) | (show AW _ _ (.exit _) _ _ _; refine B4 ?_; first | show AW _ _ _ _ _ _ | show ∃ x', _ < _ ∧ _) | (show AW _ _ (.ret) _ _ _; refine Ar ?_; try dsimp only [Al, Aa, Ak, Ab]) | fail)
    refine ⟨⟨i + 1, by omega⟩, by dsimp only; omega, ?_, .refl _⟩
    refine .cons rfl (.cons rfl (.cons rfl (.consW rfl (.int (by simp)) (.consW rfl (.int ?_) (.nil _)))))
    show _ = ((total (bs.take (i + 1)) : Nat) : Int)
    rw [htk, total_snoc]; simp
  · obtain rfl : i = bs.length := by omega
    rw [List.take_length] at *
    repeat' (first
    | ((show AL _ _ _ _ _ _ _ _; refine Af Y ?_); (first
      | (show AOp _ _ ⟨_, .move _, _, _, _, _⟩ _ _ _; refine Aq hG Y Y ?_)
      | (show AOp _ _ ⟨_, .assign _, _, _, _, _⟩ _ _ _; refine A7 hG Y Y ?_)
      | (show AOp _ _ ⟨_, .call ⟨.builtin .len, _, _⟩, _, _, _, _⟩ _ _ _; first | refine Ay hG Y Y Y Y ?_ | refine Bf hG Y Y Y Y Y ?_)
      | (show AOp _ _ ⟨_, .binOp .add _ _ _ _, _, _, _, _⟩ _ _ _; first | refine Az hG Y Y Y Y Y (by omega) ?_)
      | (show AOp _ _ ⟨_, .binOp _ _ _ _ _, _, _, _, _⟩ _ _ _; first | refine Av hG Y Y Y Y Y (by omega) ?_ | refine Aw hG Y Y Y Y Y (by omega) ?_ | (refine Au hG Y Y Y Y Y (fun h => ?_) (fun h => ?_)))
      | (show AOp _ _ ⟨_, .load _ _, _, _, _, _⟩ _ _ _; first | refine Bk hG Y Y Y ?_ | refine A9 0 hG Y Y Y Y ?_)
      | (show AOp _ _ ⟨_, .indexAddr _ _ _, _, _, _, _⟩ _ _ _; first | refine Bj hG Y Y Y Y Y Y Y (by omega) ?_ | refine Bi hG Y Y Y Y Y Y Y (by omega) ?_ | refine Bw hG Y Y ?_)
      | (show AOp _ _ ⟨_, .call ⟨.builtin .append, _, _⟩, _, _, _, _⟩ _ _ _; first | refine Bz (sz := 1) (xs := []) hG Y Y Y Y Y Y Y ⟨_, Y⟩ Y Y Y Y Y Y Y (by first | omega | (simp; omega)) (fun k => ?_) | refine B3 0 hG Y Y Y Y Y Y Y ⟨_, Y⟩ Y Y Y Y Y (by first | omega | (simp only [List.length_append, List.length_cons, List.length_nil]; omega)) (fun k => ?_) | fail)
      | (show AOp _ _ ⟨_, .call ⟨.value _, _, _⟩, _, _, _, _⟩ _ _ _; first | (refine r_owns Y Y Y Y Y (by apply grow_nil <;> (first | assumption | omega | exact Ac _ _ | exact Ae _ | exact Ag _ _ | exact Ap _ | rfl | (simp; omega))) (fun k => ?_)) | (have := kk; clear this; refine Bc Y Y Y Y Y (Owns.pure (by apply grow_nil <;> (first | assumption | omega | exact Ac _ _ | exact Ae _ | exact Ag _ _ | exact Ap _ | rfl | (simp; omega)))) ?_) | fail)
      | refine r_q hG Y Y Y ?_))
    | (show AL _ _ _ _ _ _ _ _; first | refine Bn Y Y Y ?_ | (refine As ?_; first | show AW _ _ _ _ _ _ | show ∃ x', _ < _ ∧ _)) | (show AW _ _ (.seq _ _) _ _ _; refine Ah ?_; intro Q1) | (show AW _ _ (.region _ _ false) _ _ _; refine Ad ?_; intro O1) | (show AW _ _ (.cond _ _ _) _ _ _; first | refine Aj Y ?_ | refine Ai Y ?_) | (show AW _ _ (.skip) _ _ _; refine Am ?_; first | show AW _ _ _ _ _ _ | show ∃ x', _ < _ ∧ _) | (show AW _ _ (.block _ _) _ _ _; refine Ba ?_; intro Q1) | (show AW _ _ (.exit _) _ _ _; refine B4 ?_; first | show AW _ _ _ _ _ _ | show ∃ x', _ < _ ∧ _) | (show AW _ _ (.ret) _ _ _; refine Ar ?_; try dsimp only [Al, Aa, Ak, Ab]) | fail)
    refine aw_loop (X := CatY bs) (fun x => [(25, lT bs), (26, .int .i64 bs.length), (27, .int .i64 x.i), (6, .sl 1 (.tok x.k) ((bs.take x.i).flatten.map bT))]) (fun x => ⟨[], [x.k], off, none⟩) (fun x => bs.length - x.i) ⟨0, k, Nat.zero_le _⟩ ?_ (.refl _) ?_
    · exact .cons rfl (.consW rfl (.int (by simp)) (.consW rfl (.int rfl) (.consW rfl (.eq (by simp)) (.nil _))))
    rintro ⟨i, k, hi⟩
    dsimp only
    have hle := total_take_le bs i
    have hfl := flatten_length (bs.take i)
    by_cases hib : i < bs.length
    · have htk := take_getD bs i hib
      have hle2 := total_take_le bs (i + 1)
      rw [htk, total_snoc] at hle2
      repeat' (first
    | ((show AL _ _ _ _ _ _ _ _; refine Af Y ?_); (first
      | (show AOp _ _ ⟨_, .move _, _, _, _, _⟩ _ _ _; refine Aq hG Y Y ?_)
      | (show AOp _ _ ⟨_, .assign _, _, _, _, _⟩ _ _ _; refine A7 hG Y Y ?_)
      | (show AOp _ _ ⟨_, .call ⟨.builtin .len, _, _⟩, _, _, _, _⟩ _ _ _; first | refine Ay hG Y Y Y Y ?_ | refine Bf hG Y Y Y Y Y ?_)
      | (show AOp _ _ ⟨_, .binOp .add _ _ _ _, _, _, _, _⟩ _ _ _; first | refine Az hG Y Y Y Y Y (by omega) ?_)
      | (show AOp _ _ ⟨_, .binOp _ _ _ _ _, _, _, _, _⟩ _ _ _; first | refine Av hG Y Y Y Y Y (by omega) ?_ | refine Aw hG Y Y Y Y Y (by omega) ?_ | (refine Au hG Y Y Y Y Y (fun h => ?_) (fun h => ?_)))
      | (show AOp _ _ ⟨_, .load _ _, _, _, _, _⟩ _ _ _; first | refine Bk hG Y Y Y ?_ | refine A9 0 hG Y Y Y Y ?_)
      | (show AOp _ _ ⟨_, .indexAddr _ _ _, _, _, _, _⟩ _ _ _; first | refine Bj hG Y Y Y Y Y Y Y (by omega) ?_ | refine Bi hG Y Y Y Y Y Y Y (by omega) ?_ | refine Bw hG Y Y ?_)
      | (show AOp _ _ ⟨_, .call ⟨.builtin .append, _, _⟩, _, _, _, _⟩ _ _ _; first | refine Bz (sz := 1) (xs := []) hG Y Y Y Y Y Y Y ⟨_, Y⟩ Y Y Y Y Y Y Y (by first | omega | (simp; omega)) (fun k => ?_) | refine B3 0 hG Y Y Y Y Y Y Y ⟨_, Y⟩ Y Y Y Y Y (by first | omega | (simp only [List.length_append, List.length_cons, List.length_nil]; omega)) (fun k => ?_) | fail)
      | refine r_q hG Y Y Y ?_))
    | (show AL _ _ _ _ _ _ _ _; first | refine Bn Y Y Y ?_ | (refine As ?_; first | show AW _ _ _ _ _ _ | show ∃ x', _ < _ ∧ _)) | (show AW _ _ (.seq _ _) _ _ _; refine Ah ?_; intro Q1) | (show AW _ _ (.region _ _ false) _ _ _; refine Ad ?_; intro O1) | (show AW _ _ (.cond _ _ _) _ _ _; first | refine Aj Y ?_ | refine Ai Y ?_) | (show AW _ _ (.skip) _ _ _; refine Am ?_; first | show AW _ _ _ _ _ _ | show ∃ x', _ < _ ∧ _) | (show AW _ _ (.block _ _) _ _ _; refine Ba ?_; intro Q1) | (show AW _ _ (.exit _) _ _ _; refine B4 ?_; first | show AW _ _ _ _ _ _ | show ∃ x', _ < _ ∧ _) | (show AW _ _ (.ret) _ _ _; refine Ar ?_; try dsimp only [Al, Aa, Ak, Ab]) | fail)
      refine ⟨⟨i + 1, _, by omega⟩, by dsimp only; omega, ?_, .refl _⟩
      refine .cons rfl (.cons rfl (.consW rfl (.int (by simp)) (.consW rfl (.eq ?_) (.nil _))))
      rw [htk, List.flatten_append]; simp
    · obtain rfl : i = bs.length := by omega
      rw [List.take_length] at *
      repeat' (first
    | ((show AL _ _ _ _ _ _ _ _; refine Af Y ?_); (first
      | (show AOp _ _ ⟨_, .move _, _, _, _, _⟩ _ _ _; refine Aq hG Y Y ?_)
      | (show AOp _ _ ⟨_, .assign _, _, _, _, _⟩ _ _ _; refine A7 hG Y Y ?_)
      | (show AOp _ _ ⟨_, .call ⟨.builtin .len, _, _⟩, _, _, _, _⟩ _ _ _; first | refine Ay hG Y Y Y Y ?_ | refine Bf hG Y Y Y Y Y ?_)
      | (show AOp _ _ ⟨_, .binOp .add _ _ _ _, _, _, _, _⟩ _ _ _; first | refine Az hG Y Y Y Y Y (by omega) ?_)
      | (show AOp _ _ ⟨_, .binOp _ _ _ _ _, _, _, _, _⟩ _ _ _; first | refine Av hG Y Y Y Y Y (by omega) ?_ | refine Aw hG Y Y Y Y Y (by omega) ?_ | (refine Au hG Y Y Y Y Y (fun h => ?_) (fun h => ?_)))
      | (show AOp _ _ ⟨_, .load _ _, _, _, _, _⟩ _ _ _; first | refine Bk hG Y Y Y ?_ | refine A9 0 hG Y Y Y Y ?_)
      | (show AOp _ _ ⟨_, .indexAddr _ _ _, _, _, _, _⟩ _ _ _; first | refine Bj hG Y Y Y Y Y Y Y (by omega) ?_ | refine Bi hG Y Y Y Y Y Y Y (by omega) ?_ | refine Bw hG Y Y ?_)
      | (show AOp _ _ ⟨_, .call ⟨.builtin .append, _, _⟩, _, _, _, _⟩ _ _ _; first | refine Bz (sz := 1) (xs := []) hG Y Y Y Y Y Y Y ⟨_, Y⟩ Y Y Y Y Y Y Y (by first | omega | (simp; omega)) (fun k => ?_) | refine B3 0 hG Y Y Y Y Y Y Y ⟨_, Y⟩ Y Y Y Y Y (by first | omega | (simp only [List.length_append, List.length_cons, List.length_nil]; omega)) (fun k => ?_) | fail)
      | refine r_q hG Y Y Y ?_))
    | (show AL _ _ _ _ _ _ _ _; first | refine Bn Y Y Y ?_ | (refine As ?_; first | show AW _ _ _ _ _ _ | show ∃ x', _ < _ ∧ _)) | (show AW _ _ (.seq _ _) _ _ _; refine Ah ?_; intro Q1) | (show AW _ _ (.region _ _ false) _ _ _; refine Ad ?_; intro O1) | (show AW _ _ (.cond _ _ _) _ _ _; first | refine Aj Y ?_ | refine Ai Y ?_) | (show AW _ _ (.skip) _ _ _; refine Am ?_; first | show AW _ _ _ _ _ _ | show ∃ x', _ < _ ∧ _) | (show AW _ _ (.block _ _) _ _ _; refine Ba ?_; intro Q1) | (show AW _ _ (.exit _) _ _ _; refine B4 ?_; first | show AW _ _ _ _ _ _ | show ∃ x', _ < _ ∧ _) | (show AW _ _ (.ret) _ _ _; refine Ar ?_; try dsimp only [Al, Aa, Ak, Ab]) | fail)
      exact ret_owns 0 (Ao rfl A8) rfl rfl rfl

def putBs (b s : List UInt8) : List UInt8 := b ++ putI s.length 2 ++ s
theorem num_PutBytes {x y : T} {b s : List UInt8} (hx : bytesT x = some b) (hy : bytesT y = some s) (hl : b.length ≤ 4294880000) (hs : s.length ≤ 70000) :
    Owns Try.prog 33 [x, y] 1 ((putBs b s).map bT) := by
  refine Owns.weak (us := [sT b, sT s]) ?_ (wk2 (bytesT_wk hx) (bytesT_wk hy))
  intro off
  refine Bv (N := 13) (rs := [.tmp 4]) hG Try.func33 rfl rfl rfl rfl rfl ?_
  have hpl := putI_le s.length 2
  repeat' (first
    | ((show AL _ _ _ _ _ _ _ _; refine Af Y ?_); (first
      | (show AOp _ _ ⟨_, .move _, _, _, _, _⟩ _ _ _; refine Aq hG Y Y ?_)
      | (show AOp _ _ ⟨_, .assign _, _, _, _, _⟩ _ _ _; refine A7 hG Y Y ?_)
      | (show AOp _ _ ⟨_, .call ⟨.builtin .len, _, _⟩, _, _, _, _⟩ _ _ _; first | refine Ay hG Y Y Y Y ?_ | refine Bf hG Y Y Y Y Y ?_)
      | (show AOp _ _ ⟨_, .convert _ _ _, _, _, _, _⟩ _ _ _; first | refine r_cv_u64 hG Y Y Y Y Y (by omega) ?_ | refine B0 hG Y Y Y Y Y ?_)
      | (show AOp _ _ ⟨_, .buildSlice _ _ _, _, _, _, _⟩ _ _ _; first | refine r_mk (sz := 1) hG Y Y Y Y Y Y Y ?_)
      | (show AOp _ _ ⟨_, .call ⟨.value _, _, _⟩, _, _, _, _⟩ _ _ _; first | (refine r_owns Y Y Y Y Y (by apply num_Put <;> (first | assumption | omega | exact Ac _ _ | exact Ae _ | exact Ag _ _ | exact Ap _ | rfl | (simp; omega))) (fun k => ?_)) | (have := kk; clear this; refine Bc Y Y Y Y Y (Owns.pure (by apply num_Put <;> (first | assumption | omega | exact Ac _ _ | exact Ae _ | exact Ag _ _ | exact Ap _ | rfl | (simp; omega)))) ?_) | fail)
      | refine r_q hG Y Y Y ?_))
    | (show AL _ _ _ _ _ _ _ _; first | refine Bn Y Y Y ?_ | (refine As ?_; first | show AW _ _ _ _ _ _ | show ∃ x', _ < _ ∧ _)) | (show AW _ _ (.seq _ _) _ _ _; refine Ah ?_; intro Q1) | (show AW _ _ (.region _ _ false) _ _ _; refine Ad ?_; intro O1) | (show AW _ _ (.ret) _ _ _; refine Ar ?_; try dsimp only [Al, Aa, Ak, Ab]) | fail)
  refine Af rfl (r_owns rfl rfl rfl rfl rfl (concat_b (bs := [b ++ putI s.length 2, s]) ?_ ?_ ?_) (fun k => ?_))
  · simp only [lettersT, lettersOf, Ac, Ae]
  · simp [total]; omega
  · simp
  repeat' (first
    | ((show AL _ _ _ _ _ _ _ _; refine Af Y ?_); (first
      | (show AOp _ _ ⟨_, .move _, _, _, _, _⟩ _ _ _; refine Aq hG Y Y ?_)
      | (show AOp _ _ ⟨_, .assign _, _, _, _, _⟩ _ _ _; refine A7 hG Y Y ?_)
      | (show AOp _ _ ⟨_, .call ⟨.builtin .len, _, _⟩, _, _, _, _⟩ _ _ _; first | refine Ay hG Y Y Y Y ?_ | refine Bf hG Y Y Y Y Y ?_)
      | (show AOp _ _ ⟨_, .convert _ _ _, _, _, _, _⟩ _ _ _; first | refine r_cv_u64 hG Y Y Y Y Y (by omega) ?_ | refine B0 hG Y Y Y Y Y ?_)
      | (show AOp _ _ ⟨_, .buildSlice _ _ _, _, _, _, _⟩ _ _ _; first | refine r_mk (sz := 1) hG Y Y Y Y Y Y Y ?_)
      | refine r_q hG Y Y Y ?_))
    | (show AL _ _ _ _ _ _ _ _; first | refine Bn Y Y Y ?_ | (refine As ?_; first | show AW _ _ _ _ _ _ | show ∃ x', _ < _ ∧ _)) | (show AW _ _ (.seq _ _) _ _ _; refine Ah ?_; intro Q1) | (show AW _ _ (.region _ _ false) _ _ _; refine Ad ?_; intro O1) | (show AW _ _ (.ret) _ _ _; refine Ar ?_; try dsimp only [Al, Aa, Ak, Ab]) | fail)
  exact ret_owns 0 (Ao rfl A8) rfl (by simp [putBs]) rfl
end Go.Proofs.Ytholeicgmkjadaa
namespace Go.Proofs.Ytholeicgmkjadaa
open Go.Ts
attribute [local irreducible] Go.Ts.AW Go.Ts.AOps Go.Ts.AL Go.Ts.AOp Go.Ts.ACalls Go.Ts.DL
def takeBE (b : List UInt8) : List UInt8 × Nat × Int :=
  if b.length < 2 then ([], 0, 3) else if b.length - 2 < beV (b.take 2) then ([], 0, 3) else ((b.take (2 + beV (b.take 2))).drop 2, 2 + beV (b.take 2), 0)
def tbT (r : List UInt8 × Nat × Int) : T := .tup [sT r.1, .int .i64 r.2.1, .int .i64 r.2.2]
theorem beV2 (b : List UInt8) (h : 2 ≤ b.length) : beV (b.take 2) < 65536 := by have := beV_lt 2 (b.take 2) (by simp; omega); simpa using this
theorem takeE2 (b : List UInt8) : takeE b 2 = if b.length < 2 then (0, 3) else (beV (b.take 2), 0) := by
  unfold takeE
  rw [if_neg (by omega)]
  by_cases h : b.length < 2
  · rw [if_pos (by omega), if_pos h]
  · rw [if_neg (by omega), if_neg h]; rfl

theorem num_TakeBytes {x : T} {b : List UInt8} (hx : bytesT x = some b) (hl : b.length ≤ 4294967296) : Pure Try.prog 68 [x] (tbT (takeBE b)) := by
  refine Pure.weak (us := [sT b]) ?_ (wk1 (bytesT_wk hx))
  intro off
  refine Bv (N := 29) (rs := [.tmp 2, .tmp 3, .tmp 4]) hG Try.func68 rfl rfl rfl rfl rfl ?_
  have hT := takeE2 b
  by_cases h2 : b.length < 2
  · rw [if_pos h2] at hT
    have hr : takeBE b = ([], 0, 3) := by rw [takeBE, if_pos h2]
    rw [hr]
    have hc := num_Take (n := 2) (Ae b)
    rw [hT] at hc; dsimp only at hc
    repeat' (first
    | ((show AL _ _ _ _ _ _ _ _; refine Af Y ?_); (first
      | (show AOp _ _ ⟨_, .move _, _, _, _, _⟩ _ _ _; refine Aq hG Y Y ?_)
      | (show AOp _ _ ⟨_, .assign _, _, _, _, _⟩ _ _ _; refine A7 hG Y Y ?_)
      | (show AOp _ _ ⟨_, .call ⟨.builtin .len, _, _⟩, _, _, _, _⟩ _ _ _; first | refine Ay hG Y Y Y Y ?_ | refine Bf hG Y Y Y Y Y ?_)
      | (show AOp _ _ ⟨_, .binOp .add _ _ _ _, _, _, _, _⟩ _ _ _; first | refine Az hG Y Y Y Y Y (by omega) ?_)
      | (show AOp _ _ ⟨_, .binOp .sub _ _ _ _, _, _, _, _⟩ _ _ _; first | refine Az hG Y Y Y Y Y (by omega) ?_)
      | (show AOp _ _ ⟨_, .binOp _ _ _ _ _, _, _, _, _⟩ _ _ _; first | refine Av hG Y Y Y Y Y (by omega) ?_ | refine Aw hG Y Y Y Y Y (by omega) ?_ | (refine Au hG Y Y Y Y Y (fun h => ?_) (fun h => ?_)))
      | (show AOp _ _ ⟨_, .convert _ _ _, _, _, _, _⟩ _ _ _; first | refine Bp hG Y Y Y Y Y (by omega) ?_ | refine B0 hG Y Y Y Y Y ?_)
      | (show AOp _ _ ⟨_, .slice _ _ _ _ _, _, _, _, _⟩ _ _ _; first | refine r_sl_lhn hG Y Y Y Y Y Y Y Y (by omega) ?_ | refine r_sl_lh hG Y Y Y Y Y Y Y Y (by omega) ?_ | refine op_cut0 hG Y Y Y Y Y Y Y Y Y Y ?_ | refine r_sl hG Y Y ?_)
      | (show AOp _ _ ⟨_, .call ⟨.value _, _, _⟩, _, _, _, _⟩ _ _ _; first | refine Bc Y Y Y Y Y (by apply hc <;> (first | assumption | omega | exact Ac _ _ | exact Ae _ | exact Ag _ _ | exact Ap _ | rfl | (simp; omega))) ?_ | fail)
      | refine r_q hG Y Y Y ?_))
    | (show AL _ _ _ _ _ _ _ _; first | refine Bn Y Y Y ?_ | (refine As ?_; first | show AW _ _ _ _ _ _ | show ∃ x', _ < _ ∧ _)) | (show AW _ _ (.seq _ _) _ _ _; refine Ah ?_; intro Q1) | (show AW _ _ (.region _ _ false) _ _ _; refine Ad ?_; intro O1) | (show AW _ _ (.cond _ _ _) _ _ _; first | refine Aj Y ?_ | refine Ai Y ?_) | (show AW _ _ (.skip) _ _ _; refine Am ?_; first | show AW _ _ _ _ _ _ | show ∃ x', _ < _ ∧ _) | (show AW _ _ (.ret) _ _ _; refine Ar ?_; try dsimp only [Al, Aa, Ak, Ab]) | fail)
    exact Be (Ao rfl (Ao rfl (Ao rfl A8))) (Wk.tupL (wk3 (.nil 1) (.refl _) (.refl _))) rfl
  · rw [if_neg h2] at hT
    have hv := beV2 b (by omega)
    have hc := num_Take (n := 2) (Ae b)
    rw [hT] at hc; dsimp only at hc
    repeat' (first
    | ((show AL _ _ _ _ _ _ _ _; refine Af Y ?_); (first
      | (show AOp _ _ ⟨_, .move _, _, _, _, _⟩ _ _ _; refine Aq hG Y Y ?_)
      | (show AOp _ _ ⟨_, .assign _, _, _, _, _⟩ _ _ _; refine A7 hG Y Y ?_)
      | (show AOp _ _ ⟨_, .call ⟨.builtin .len, _, _⟩, _, _, _, _⟩ _ _ _; first | refine Ay hG Y Y Y Y ?_ | refine Bf hG Y Y Y Y Y ?_)
      | (show AOp _ _ ⟨_, .binOp .add _ _ _ _, _, _, _, _⟩ _ _ _; first | refine Az hG Y Y Y Y Y (by omega) ?_)
      | (show AOp _ _ ⟨_, .binOp .sub _ _ _ _, _, _, _, _⟩ _ _ _; first | refine Az hG Y Y Y Y Y (by omega) ?_)
      | (show AOp _ _ ⟨_, .binOp _ _ _ _ _, _, _, _, _⟩ _ _ _; first | refine Av hG Y Y Y Y Y (by omega) ?_ | refine Aw hG Y Y Y Y Y (by omega) ?_ | (refine Au hG Y Y Y Y Y (fun h => ?_) (fun h => ?_)))
      | (show AOp _ _ ⟨_, .convert _ _ _, _, _, _, _⟩ _ _ _; first | refine Bp hG Y Y Y Y Y (by omega) ?_ | refine B0 hG Y Y Y Y Y ?_)
      | (show AOp _ _ ⟨_, .slice _ _ _ _ _, _, _, _, _⟩ _ _ _; first | refine r_sl_lhn hG Y Y Y Y Y Y Y Y (by omega) ?_ | refine r_sl_lh hG Y Y Y Y Y Y Y Y (by omega) ?_ | refine op_cut0 hG Y Y Y Y Y Y Y Y Y Y ?_ | refine r_sl hG Y Y ?_)
      | (show AOp _ _ ⟨_, .call ⟨.value _, _, _⟩, _, _, _, _⟩ _ _ _; first | refine Bc Y Y Y Y Y (by apply hc <;> (first | assumption | omega | exact Ac _ _ | exact Ae _ | exact Ag _ _ | exact Ap _ | rfl | (simp; omega))) ?_ | (refine r_owns Y Y Y Y Y (by apply clone_b <;> (first | assumption | omega | exact Ac _ _ | exact Ae _ | exact Ag _ _ | exact Ap _ | rfl | (simp; omega))) (fun k => ?_)) | (have := kk; clear this; refine Bc Y Y Y Y Y (Owns.pure (by apply clone_b <;> (first | assumption | omega | exact Ac _ _ | exact Ae _ | exact Ag _ _ | exact Ap _ | rfl | (simp; omega)))) ?_) | fail)
      | refine r_q hG Y Y Y ?_))
    | (show AL _ _ _ _ _ _ _ _; first | refine Bn Y Y Y ?_ | (refine As ?_; first | show AW _ _ _ _ _ _ | show ∃ x', _ < _ ∧ _)) | (show AW _ _ (.seq _ _) _ _ _; refine Ah ?_; intro Q1) | (show AW _ _ (.region _ _ false) _ _ _; refine Ad ?_; intro O1) | (show AW _ _ (.cond _ _ _) _ _ _; first | refine Aj Y ?_ | refine Ai Y ?_) | (show AW _ _ (.skip) _ _ _; refine Am ?_; first | show AW _ _ _ _ _ _ | show ∃ x', _ < _ ∧ _) | (show AW _ _ (.ret) _ _ _; refine Ar ?_; try dsimp only [Al, Aa, Ak, Ab]) | fail)
    · have hr : takeBE b = ([], 0, 3) := by rw [takeBE, if_neg h2, if_pos (by omega)]
      refine Be (Ao rfl (Ao rfl (Ao rfl A8))) ?_ rfl
      rw [hr]
      exact Wk.tupL (wk3 (.nil 1) (.refl _) (.refl _))
    · have hr : takeBE b = ((b.take (2 + beV (b.take 2))).drop 2, 2 + beV (b.take 2), 0) := by rw [takeBE, if_neg h2, if_neg (by omega)]
      refine Be (Ao rfl (Ao rfl (Ao rfl A8))) ?_ rfl
      rw [hr]
      refine Wk.tupL (wk3 ((Wk.own _ _ _).trans (.eq ?_)) (.int (by simp)) (.refl _))
      rw [sT]; congr 3

end Go.Proofs.Ytholeicgmkjadaa
namespace Go.Sets
set_option linter.unusedSimpArgs false
set_option linter.unusedVariables false
abbrev C := UInt16

theorem lt_irrefl (x : C) : ¬ x < x := by simp [UInt16.lt_iff_toNat_lt]
def risesB : List C → Bool
  | x :: y :: r => decide (x < y) && risesB (y :: r)
  | _ => true
def mergeK (keep : Bool → Bool → Bool) : List C → List C → List C
  | [], [] => []
  | [], y :: b => cond (keep false true) [y] [] ++ mergeK keep [] b
  | x :: a, [] => cond (keep true false) [x] [] ++ mergeK keep a []
  | x :: a, y :: b => if x < y then cond (keep true false) [x] [] ++ mergeK keep a (y :: b)
      else if y < x then cond (keep false true) [y] [] ++ mergeK keep (x :: a) b
      else cond (keep true true) [x] [] ++ mergeK keep a b
termination_by a b => a.length + b.length

def kOr (_ _ : Bool) : Bool := true
def ins (x : C) : List C → List C
  | [] => [x]
  | y :: l => if x < y then x :: y :: l else if x = y then y :: l else y :: ins x l
def mk (l : List C) : List C := l.foldl (fun acc x => ins x acc) []
theorem merge_length_le (keep : Bool → Bool → Bool) : ∀ (a b : List C), (mergeK keep a b).length ≤ a.length + b.length
  | [], [] => by simp [mergeK]
  | [], y :: b => by
    have := merge_length_le keep [] b
    rw [mergeK]; cases keep false true <;> simp at this ⊢ <;> omega
  | x :: a, [] => by
    have := merge_length_le keep a []
    rw [mergeK]; cases keep true false <;> simp at this ⊢ <;> omega
  | x :: a, y :: b => by
    rw [mergeK]
    split
    · have := merge_length_le keep a (y :: b)
      cases keep true false <;> simp at this ⊢ <;> omega
    · split
      · have := merge_length_le keep (x :: a) b
        cases keep false true <;> simp at this ⊢ <;> omega
      · have := merge_length_le keep a b
        cases keep true true <;> simp at this ⊢ <;> omega
termination_by a b => a.length + b.length
end Go.Sets
namespace Go.Proofs.Ytholeicgmkjadaa
open Go.Ts Go.Sets
attribute [local irreducible] Go.Ts.AW Go.Ts.AOps Go.Ts.AL Go.Ts.AOp Go.Ts.ACalls Go.Ts.DL
theorem hT_lt {x y : UInt16} : ((x.toNat : Int) < (y.toNat : Int)) ↔ x < y := by rw [UInt16.lt_iff_toNat_lt]; omega

structure MX (keep : Bool → Bool → Bool) (a b : List UInt16) where
  a' : List UInt16
  b' : List UInt16
  pre : List UInt16
  k : Nat
  hp : pre ++ mergeK keep a' b' = mergeK keep a b
  hl : pre.length + a'.length + b'.length ≤ a.length + b.length
set_option maxHeartbeats 4000000 in
theorem merge_any {g : Nat} {keep : Bool → Bool → Bool} (hk : ∀ i t, Pure Try.prog g [.bool i, .bool t] (.bool (keep i t))) {x y : T} {a b : List UInt16} (hx : catsT x = some a) (hy : catsT y = some b) (hl : a.length + b.length ≤ 4294967000) :
    Owns Try.prog 76 [x, y, .fn (.func g) []] 1 ((mergeK keep a b).map hT) := by
  refine Owns.weak (us := [cT a, cT b, .fn (.func g) []]) ?_ (wk3 (catsT_wk hx) (catsT_wk hy) (.refl _))
  intro off
  refine Bv (N := 72) (rs := [.tmp 6]) hG Try.func76 rfl rfl rfl rfl rfl ?_
  repeat' (first
    | ((first | (show AL _ _ _ _ _ _ _ _; refine Af Y ?_) | (show DL _ _ _ _ _ _ _; refine' Bs Y Y (fun K kk => ?_) ?_; try (show Go.Ts.T; rotate_left))); (first
      | (show AOp _ _ ⟨_, .move _, _, _, _, _⟩ _ _ _; refine Aq hG Y Y ?_)
      | (show AOp _ _ ⟨_, .assign _, _, _, _, _⟩ _ _ _; refine A7 hG Y Y ?_)
      | (show AOp _ _ ⟨_, .call ⟨.builtin .len, _, _⟩, _, _, _, _⟩ _ _ _; first | refine Ay hG Y Y Y Y ?_ | refine Bf hG Y Y Y Y Y ?_)
      | (show AOp _ _ ⟨_, .binOp .add _ _ _ _, _, _, _, _⟩ _ _ _; first | refine Az hG Y Y Y Y Y (by omega) ?_)
      | (show AOp _ _ ⟨_, .binOp _ _ _ _ _, _, _, _, _⟩ _ _ _; first | refine Av hG Y Y Y Y Y (by omega) ?_ | refine Aw hG Y Y Y Y Y (by omega) ?_ | ((fail_if_success have := kk); refine Au hG Y Y Y Y Y (fun h => ?_) (fun h => ?_)))
      | (show AOp _ _ ⟨_, .load _ _, _, _, _, _⟩ _ _ _; first | refine Bk hG Y Y Y ?_ | refine A9 0 hG Y Y Y Y ?_)
      | (show AOp _ _ ⟨_, .indexAddr _ _ _, _, _, _, _⟩ _ _ _; first | refine B6 hG Y Y Y Y Y Y Y ?_ | refine Bj hG Y Y Y Y Y Y Y (by omega) ?_ | refine Bi hG Y Y Y Y Y Y Y (by omega) ?_ | refine Bw hG Y Y ?_)
      | (show AOp _ _ ⟨_, .slice _ _ _ _ _, _, _, _, _⟩ _ _ _; first | refine Bb hG Y Y Y Y Y Y Y (by omega) ?_ | refine Bh hG Y Y Y Y Y Y Y (by omega) ?_ | refine r_sl hG Y Y ?_)
      | (show AOp _ _ ⟨_, .pick _ _ _, _, _, _, _⟩ _ _ _; refine Br hG Y Y Y ?_)
      | (show AOp _ _ ⟨_, .buildSlice _ _ _, _, _, _, _⟩ _ _ _; first | refine r_mk (sz := 1) hG Y Y Y Y Y Y Y ?_)
      | (show AOp _ _ ⟨_, .call ⟨.builtin .append, _, _⟩, _, _, _, _⟩ _ _ _; first | refine Bz (sz := 1) (xs := []) hG Y Y Y Y Y Y Y ⟨_, Y⟩ Y Y Y Y Y Y Y (by first | omega | (simp; omega)) (fun k => ?_) | refine B3 0 hG Y Y Y Y Y Y Y ⟨_, Y⟩ Y Y Y Y Y (by first | omega | (simp only [List.length_append, List.length_cons, List.length_nil]; omega)) (fun k => ?_) | fail)
      | refine r_q hG Y Y Y ?_); try exact kk)
    | (show AL _ _ _ _ _ _ _ _; first | refine Bn Y Y Y ?_ | (refine As ?_; first | show AW _ _ _ _ _ _ | show ∃ x', _ < _ ∧ _)) | (show AW _ _ (.seq _ _) _ _ _; refine Ah ?_; intro Q1) | (show AW _ _ (.region _ _ false) _ _ _; refine Ad ?_; intro O1) | (show AW _ _ (.cond _ _ _) _ _ _; first | refine Aj Y ?_ | refine Ai Y ?_) | (show AW _ _ (.skip) _ _ _; refine Am ?_; first | show AW _ _ _ _ _ _ | show ∃ x', _ < _ ∧ _) | (show AW _ _ (.goto _) _ _ _; refine Bm ?_; try dsimp only [Al, Aa, Ak, Ab]) | (show AW _ _ (.ret) _ _ _; refine Ar ?_; try dsimp only [Al, Aa, Ak, Ab])
    | (show DL _ _ _ _ _ _ _; refine dl_d Y Y (fun K kt kf => Au hG Y Y Y Y Y kt kf) (fun h => ?_) (fun h => ?_))
    | (show DL _ _ _ _ _ _ _; refine dl_s Y Y Y ?_) | (show DL _ _ _ _ _ _ _; refine B2 ?_; first | show AW _ _ _ _ _ _ | show ∃ x', _ < _ ∧ _) | (show AW _ _ (.region _ _ true) _ _ _; refine Bl mix (by kernel_rfl) ?_; intro O1) | fail)
  refine aw_scope' 0 rfl (X := MX keep a b) (fun x => [(0, cT x.a'), (1, cT x.b'), (2, .fn (.func g) []), (7, .sl 1 (.tok x.k) (x.pre.map hT))]) (fun x => ⟨[], [x.k], off, none⟩) (fun x => x.a'.length + x.b'.length) ?_ ?_
  · rintro ⟨a', b', pre, k, hp, hl'⟩
    dsimp only at *
    cases a' with
    | nil =>
      have n1 : ([] : List UInt16).length = 0 := rfl
      cases b' with
      | nil =>
        repeat' (first
    | ((first | (show AL _ _ _ _ _ _ _ _; refine Af Y ?_) | (show DL _ _ _ _ _ _ _; refine' Bs Y Y (fun K kk => ?_) ?_; try (show Go.Ts.T; rotate_left))); (first
      | (show AOp _ _ ⟨_, .move _, _, _, _, _⟩ _ _ _; refine Aq hG Y Y ?_)
      | (show AOp _ _ ⟨_, .assign _, _, _, _, _⟩ _ _ _; refine A7 hG Y Y ?_)
      | (show AOp _ _ ⟨_, .call ⟨.builtin .len, _, _⟩, _, _, _, _⟩ _ _ _; first | refine Ay hG Y Y Y Y ?_ | refine Bf hG Y Y Y Y Y ?_)
      | (show AOp _ _ ⟨_, .binOp .add _ _ _ _, _, _, _, _⟩ _ _ _; first | refine Az hG Y Y Y Y Y (by omega) ?_)
      | (show AOp _ _ ⟨_, .binOp _ _ _ _ _, _, _, _, _⟩ _ _ _; first | refine Av hG Y Y Y Y Y (by omega) ?_ | refine Aw hG Y Y Y Y Y (by omega) ?_ | ((fail_if_success have := kk); refine Au hG Y Y Y Y Y (fun h => ?_) (fun h => ?_)))
      | (show AOp _ _ ⟨_, .load _ _, _, _, _, _⟩ _ _ _; first | refine Bk hG Y Y Y ?_ | refine A9 0 hG Y Y Y Y ?_)
      | (show AOp _ _ ⟨_, .indexAddr _ _ _, _, _, _, _⟩ _ _ _; first | refine B6 hG Y Y Y Y Y Y Y ?_ | refine Bj hG Y Y Y Y Y Y Y (by omega) ?_ | refine Bi hG Y Y Y Y Y Y Y (by omega) ?_ | refine Bw hG Y Y ?_)
      | (show AOp _ _ ⟨_, .slice _ _ _ _ _, _, _, _, _⟩ _ _ _; first | refine Bb hG Y Y Y Y Y Y Y (by omega) ?_ | refine Bh hG Y Y Y Y Y Y Y (by omega) ?_ | refine r_sl hG Y Y ?_)
      | (show AOp _ _ ⟨_, .pick _ _ _, _, _, _, _⟩ _ _ _; refine Br hG Y Y Y ?_)
      | (show AOp _ _ ⟨_, .buildSlice _ _ _, _, _, _, _⟩ _ _ _; first | refine r_mk (sz := 1) hG Y Y Y Y Y Y Y ?_)
      | (show AOp _ _ ⟨_, .call ⟨.builtin .append, _, _⟩, _, _, _, _⟩ _ _ _; first | refine Bz (sz := 1) (xs := []) hG Y Y Y Y Y Y Y ⟨_, Y⟩ Y Y Y Y Y Y Y (by first | omega | (simp; omega)) (fun k => ?_) | refine B3 0 hG Y Y Y Y Y Y Y ⟨_, Y⟩ Y Y Y Y Y (by first | omega | (simp only [List.length_append, List.length_cons, List.length_nil]; omega)) (fun k => ?_) | fail)
      | refine r_q hG Y Y Y ?_); try exact kk)
    | (show AL _ _ _ _ _ _ _ _; first | refine Bn Y Y Y ?_ | (refine As ?_; first | show AW _ _ _ _ _ _ | show ∃ x', _ < _ ∧ _)) | (show AW _ _ (.seq _ _) _ _ _; refine Ah ?_; intro Q1) | (show AW _ _ (.region _ _ false) _ _ _; refine Ad ?_; intro O1) | (show AW _ _ (.cond _ _ _) _ _ _; first | refine Aj Y ?_ | refine Ai Y ?_) | (show AW _ _ (.skip) _ _ _; refine Am ?_; first | show AW _ _ _ _ _ _ | show ∃ x', _ < _ ∧ _) | (show AW _ _ (.goto _) _ _ _; refine Bm ?_; try dsimp only [Al, Aa, Ak, Ab]) | (show AW _ _ (.ret) _ _ _; refine Ar ?_; try dsimp only [Al, Aa, Ak, Ab])
    | (show DL _ _ _ _ _ _ _; refine dl_d Y Y (fun K kt kf => Au hG Y Y Y Y Y kt kf) (fun h => ?_) (fun h => ?_))
    | (show DL _ _ _ _ _ _ _; refine dl_s Y Y Y ?_) | (show DL _ _ _ _ _ _ _; refine B2 ?_; first | show AW _ _ _ _ _ _ | show ∃ x', _ < _ ∧ _) | (show AW _ _ (.region _ _ true) _ _ _; refine Bl mix (by kernel_rfl) ?_; intro O1) | fail)
        exact ret_owns 0 (Ao rfl A8) rfl (by rw [← hp]; simp [mergeK]) rfl
      | cons y b1 =>
        have n2 : (y :: b1).length = b1.length + 1 := rfl
        rw [mergeK] at hp
        have hk' := hk false true
        cases hkk : keep false true <;> rw [hkk] at hk' hp
        · repeat' (first
    | ((first | (show AL _ _ _ _ _ _ _ _; refine Af Y ?_) | (show DL _ _ _ _ _ _ _; refine' Bs Y Y (fun K kk => ?_) ?_; try (show Go.Ts.T; rotate_left))); (first
      | (show AOp _ _ ⟨_, .move _, _, _, _, _⟩ _ _ _; refine Aq hG Y Y ?_)
      | (show AOp _ _ ⟨_, .assign _, _, _, _, _⟩ _ _ _; refine A7 hG Y Y ?_)
      | (show AOp _ _ ⟨_, .call ⟨.builtin .len, _, _⟩, _, _, _, _⟩ _ _ _; first | refine Ay hG Y Y Y Y ?_ | refine Bf hG Y Y Y Y Y ?_)
      | (show AOp _ _ ⟨_, .binOp .add _ _ _ _, _, _, _, _⟩ _ _ _; first | refine Az hG Y Y Y Y Y (by omega) ?_)
      | (show AOp _ _ ⟨_, .binOp _ _ _ _ _, _, _, _, _⟩ _ _ _; first | refine Av hG Y Y Y Y Y (by omega) ?_ | refine Aw hG Y Y Y Y Y (by omega) ?_ | ((fail_if_success have := kk); refine Au hG Y Y Y Y Y (fun h => ?_) (fun h => ?_)))
      | (show AOp _ _ ⟨_, .load _ _, _, _, _, _⟩ _ _ _; first | refine Bk hG Y Y Y ?_ | refine A9 0 hG Y Y Y Y ?_)
      | (show AOp _ _ ⟨_, .indexAddr _ _ _, _, _, _, _⟩ _ _ _; first | refine B6 hG Y Y Y Y Y Y Y ?_ | refine Bj hG Y Y Y Y Y Y Y (by omega) ?_ | refine Bi hG Y Y Y Y Y Y Y (by omega) ?_ | refine Bw hG Y Y ?_)
      | (show AOp _ _ ⟨_, .slice _ _ _ _ _, _, _, _, _⟩ _ _ _; first | refine Bb hG Y Y Y Y Y Y Y (by omega) ?_ | refine Bh hG Y Y Y Y Y Y Y (by omega) ?_ | refine r_sl hG Y Y ?_)
      | (show AOp _ _ ⟨_, .pick _ _ _, _, _, _, _⟩ _ _ _; refine Br hG Y Y Y ?_)
      | (show AOp _ _ ⟨_, .buildSlice _ _ _, _, _, _, _⟩ _ _ _; first | refine r_mk (sz := 1) hG Y Y Y Y Y Y Y ?_)
      | (show AOp _ _ ⟨_, .call ⟨.builtin .append, _, _⟩, _, _, _, _⟩ _ _ _; first | refine Bz (sz := 1) (xs := []) hG Y Y Y Y Y Y Y ⟨_, Y⟩ Y Y Y Y Y Y Y (by first | omega | (simp; omega)) (fun k => ?_) | refine B3 0 hG Y Y Y Y Y Y Y ⟨_, Y⟩ Y Y Y Y Y (by first | omega | (simp only [List.length_append, List.length_cons, List.length_nil]; omega)) (fun k => ?_) | fail)
      | (show AOp _ _ ⟨_, .call ⟨.value _, _, _⟩, _, _, _, _⟩ _ _ _; first | refine Bc Y Y Y Y Y (by apply hk' <;> (first | assumption | omega | exact Ac _ _ | exact Ae _ | exact Ag _ _ | exact Ap _ | rfl | (simp; omega))) ?_ | fail)
      | refine r_q hG Y Y Y ?_); try exact kk)
    | (show AL _ _ _ _ _ _ _ _; first | refine Bn Y Y Y ?_ | (refine As ?_; first | show AW _ _ _ _ _ _ | show ∃ x', _ < _ ∧ _)) | (show AW _ _ (.seq _ _) _ _ _; refine Ah ?_; intro Q1) | (show AW _ _ (.region _ _ false) _ _ _; refine Ad ?_; intro O1) | (show AW _ _ (.cond _ _ _) _ _ _; first | refine Aj Y ?_ | refine Ai Y ?_) | (show AW _ _ (.skip) _ _ _; refine Am ?_; first | show AW _ _ _ _ _ _ | show ∃ x', _ < _ ∧ _) | (show AW _ _ (.goto _) _ _ _; refine Bm ?_; try dsimp only [Al, Aa, Ak, Ab]) | (show AW _ _ (.ret) _ _ _; refine Ar ?_; try dsimp only [Al, Aa, Ak, Ab])
    | (show DL _ _ _ _ _ _ _; refine dl_d Y Y (fun K kt kf => Au hG Y Y Y Y Y kt kf) (fun h => ?_) (fun h => ?_))
    | (show DL _ _ _ _ _ _ _; refine dl_s Y Y Y ?_) | (show DL _ _ _ _ _ _ _; refine B2 ?_; first | show AW _ _ _ _ _ _ | show ∃ x', _ < _ ∧ _) | (show AW _ _ (.region _ _ true) _ _ _; refine Bl mix (by kernel_rfl) ?_; intro O1) | fail)
          refine ⟨rfl, ⟨[], b1, pre, k, hp, by simp only [List.length_cons] at *; omega⟩, by simp only [List.length_cons]; omega, ?_, .refl _⟩
          exact .consW rfl (.eq (by simp [cT])) (.consW rfl (.eq (by simp [cT])) (.cons rfl (.cons rfl (.nil _))))
        · repeat' (first
    | ((first | (show AL _ _ _ _ _ _ _ _; refine Af Y ?_) | (show DL _ _ _ _ _ _ _; refine' Bs Y Y (fun K kk => ?_) ?_; try (show Go.Ts.T; rotate_left))); (first
      | (show AOp _ _ ⟨_, .move _, _, _, _, _⟩ _ _ _; refine Aq hG Y Y ?_)
      | (show AOp _ _ ⟨_, .assign _, _, _, _, _⟩ _ _ _; refine A7 hG Y Y ?_)
      | (show AOp _ _ ⟨_, .call ⟨.builtin .len, _, _⟩, _, _, _, _⟩ _ _ _; first | refine Ay hG Y Y Y Y ?_ | refine Bf hG Y Y Y Y Y ?_)
      | (show AOp _ _ ⟨_, .binOp .add _ _ _ _, _, _, _, _⟩ _ _ _; first | refine Az hG Y Y Y Y Y (by omega) ?_)
      | (show AOp _ _ ⟨_, .binOp _ _ _ _ _, _, _, _, _⟩ _ _ _; first | refine Av hG Y Y Y Y Y (by omega) ?_ | refine Aw hG Y Y Y Y Y (by omega) ?_ | ((fail_if_success have := kk); refine Au hG Y Y Y Y Y (fun h => ?_) (fun h => ?_)))
      | (show AOp _ _ ⟨_, .load _ _, _, _, _, _⟩ _ _ _; first | refine Bk hG Y Y Y ?_ | refine A9 0 hG Y Y Y Y ?_)
      | (show AOp _ _ ⟨_, .indexAddr _ _ _, _, _, _, _⟩ _ _ _; first | refine B6 hG Y Y Y Y Y Y Y ?_ | refine Bj hG Y Y Y Y Y Y Y (by omega) ?_ | refine Bi hG Y Y Y Y Y Y Y (by omega) ?_ | refine Bw hG Y Y ?_)
      | (show AOp _ _ ⟨_, .slice _ _ _ _ _, _, _, _, _⟩ _ _ _; first | refine Bb hG Y Y Y Y Y Y Y (by omega) ?_ | refine Bh hG Y Y Y Y Y Y Y (by omega) ?_ | refine r_sl hG Y Y ?_)
      | (show AOp _ _ ⟨_, .pick _ _ _, _, _, _, _⟩ _ _ _; refine Br hG Y Y Y ?_)
      | (show AOp _ _ ⟨_, .buildSlice _ _ _, _, _, _, _⟩ _ _ _; first | refine r_mk (sz := 1) hG Y Y Y Y Y Y Y ?_)
      | (show AOp _ _ ⟨_, .call ⟨.builtin .append, _, _⟩, _, _, _, _⟩ _ _ _; first | refine B3 0 (ys := [y]) hG Y Y Y Y Y Y Y ⟨_, Y⟩ Y Y Y Y Y (by simp only [List.length_append, List.length_map, List.length_cons, List.length_nil]; omega) (fun k => ?_) | refine Bz (sz := 1) (xs := []) hG Y Y Y Y Y Y Y ⟨_, Y⟩ Y Y Y Y Y Y Y (by first | omega | (simp; omega)) (fun k => ?_) | refine B3 0 hG Y Y Y Y Y Y Y ⟨_, Y⟩ Y Y Y Y Y (by first | omega | (simp only [List.length_append, List.length_cons, List.length_nil]; omega)) (fun k => ?_) | fail)
      | (show AOp _ _ ⟨_, .call ⟨.value _, _, _⟩, _, _, _, _⟩ _ _ _; first | refine Bc Y Y Y Y Y (by apply hk' <;> (first | assumption | omega | exact Ac _ _ | exact Ae _ | exact Ag _ _ | exact Ap _ | rfl | (simp; omega))) ?_ | fail)
      | refine r_q hG Y Y Y ?_); try exact kk)
    | (show AL _ _ _ _ _ _ _ _; first | refine Bn Y Y Y ?_ | (refine As ?_; first | show AW _ _ _ _ _ _ | show ∃ x', _ < _ ∧ _)) | (show AW _ _ (.seq _ _) _ _ _; refine Ah ?_; intro Q1) | (show AW _ _ (.region _ _ false) _ _ _; refine Ad ?_; intro O1) | (show AW _ _ (.cond _ _ _) _ _ _; first | refine Aj Y ?_ | refine Ai Y ?_) | (show AW _ _ (.skip) _ _ _; refine Am ?_; first | show AW _ _ _ _ _ _ | show ∃ x', _ < _ ∧ _) | (show AW _ _ (.goto _) _ _ _; refine Bm ?_; try dsimp only [Al, Aa, Ak, Ab]) | (show AW _ _ (.ret) _ _ _; refine Ar ?_; try dsimp only [Al, Aa, Ak, Ab])
    | (show DL _ _ _ _ _ _ _; refine dl_d Y Y (fun K kt kf => Au hG Y Y Y Y Y kt kf) (fun h => ?_) (fun h => ?_))
    | (show DL _ _ _ _ _ _ _; refine dl_s Y Y Y ?_) | (show DL _ _ _ _ _ _ _; refine B2 ?_; first | show AW _ _ _ _ _ _ | show ∃ x', _ < _ ∧ _) | (show AW _ _ (.region _ _ true) _ _ _; refine Bl mix (by kernel_rfl) ?_; intro O1) | fail)
          refine ⟨rfl, ⟨[], b1, pre ++ [y], _, by simpa using hp, by simp only [List.length_cons, List.length_append, List.length_nil] at *; omega⟩, by simp only [List.length_cons]; omega, ?_, .refl _⟩
          exact .consW rfl (.eq (by simp [cT])) (.consW rfl (.eq (by simp [cT])) (.cons rfl (.cons rfl (.nil _))))
    | cons x a1 =>
      have n1 : (x :: a1).length = a1.length + 1 := rfl
      cases b' with
      | nil =>
        have n2 : ([] : List UInt16).length = 0 := rfl
        rw [mergeK] at hp
        have hk' := hk true false
        cases hkk : keep true false <;> rw [hkk] at hk' hp
        · repeat' (first
    | ((first | (show AL _ _ _ _ _ _ _ _; refine Af Y ?_) | (show DL _ _ _ _ _ _ _; refine' Bs Y Y (fun K kk => ?_) ?_; try (show Go.Ts.T; rotate_left))); (first
      | (show AOp _ _ ⟨_, .move _, _, _, _, _⟩ _ _ _; refine Aq hG Y Y ?_)
      | (show AOp _ _ ⟨_, .assign _, _, _, _, _⟩ _ _ _; refine A7 hG Y Y ?_)
      | (show AOp _ _ ⟨_, .call ⟨.builtin .len, _, _⟩, _, _, _, _⟩ _ _ _; first | refine Ay hG Y Y Y Y ?_ | refine Bf hG Y Y Y Y Y ?_)
      | (show AOp _ _ ⟨_, .binOp .add _ _ _ _, _, _, _, _⟩ _ _ _; first | refine Az hG Y Y Y Y Y (by omega) ?_)
      | (show AOp _ _ ⟨_, .binOp _ _ _ _ _, _, _, _, _⟩ _ _ _; first | refine Av hG Y Y Y Y Y (by omega) ?_ | refine Aw hG Y Y Y Y Y (by omega) ?_ | ((fail_if_success have := kk); refine Au hG Y Y Y Y Y (fun h => ?_) (fun h => ?_)))
      | (show AOp _ _ ⟨_, .load _ _, _, _, _, _⟩ _ _ _; first | refine Bk hG Y Y Y ?_ | refine A9 0 hG Y Y Y Y ?_)
      | (show AOp _ _ ⟨_, .indexAddr _ _ _, _, _, _, _⟩ _ _ _; first | refine B6 hG Y Y Y Y Y Y Y ?_ | refine Bj hG Y Y Y Y Y Y Y (by omega) ?_ | refine Bi hG Y Y Y Y Y Y Y (by omega) ?_ | refine Bw hG Y Y ?_)
      | (show AOp _ _ ⟨_, .slice _ _ _ _ _, _, _, _, _⟩ _ _ _; first | refine Bb hG Y Y Y Y Y Y Y (by omega) ?_ | refine Bh hG Y Y Y Y Y Y Y (by omega) ?_ | refine r_sl hG Y Y ?_)
      | (show AOp _ _ ⟨_, .pick _ _ _, _, _, _, _⟩ _ _ _; refine Br hG Y Y Y ?_)
      | (show AOp _ _ ⟨_, .buildSlice _ _ _, _, _, _, _⟩ _ _ _; first | refine r_mk (sz := 1) hG Y Y Y Y Y Y Y ?_)
      | (show AOp _ _ ⟨_, .call ⟨.builtin .append, _, _⟩, _, _, _, _⟩ _ _ _; first | refine Bz (sz := 1) (xs := []) hG Y Y Y Y Y Y Y ⟨_, Y⟩ Y Y Y Y Y Y Y (by first | omega | (simp; omega)) (fun k => ?_) | refine B3 0 hG Y Y Y Y Y Y Y ⟨_, Y⟩ Y Y Y Y Y (by first | omega | (simp only [List.length_append, List.length_cons, List.length_nil]; omega)) (fun k => ?_) | fail)
      | (show AOp _ _ ⟨_, .call ⟨.value _, _, _⟩, _, _, _, _⟩ _ _ _; first | refine Bc Y Y Y Y Y (by apply hk' <;> (first | assumption | omega | exact Ac _ _ | exact Ae _ | exact Ag _ _ | exact Ap _ | rfl | (simp; omega))) ?_ | fail)
      | refine r_q hG Y Y Y ?_); try exact kk)
    | (show AL _ _ _ _ _ _ _ _; first | refine Bn Y Y Y ?_ | (refine As ?_; first | show AW _ _ _ _ _ _ | show ∃ x', _ < _ ∧ _)) | (show AW _ _ (.seq _ _) _ _ _; refine Ah ?_; intro Q1) | (show AW _ _ (.region _ _ false) _ _ _; refine Ad ?_; intro O1) | (show AW _ _ (.cond _ _ _) _ _ _; first | refine Aj Y ?_ | refine Ai Y ?_) | (show AW _ _ (.skip) _ _ _; refine Am ?_; first | show AW _ _ _ _ _ _ | show ∃ x', _ < _ ∧ _) | (show AW _ _ (.goto _) _ _ _; refine Bm ?_; try dsimp only [Al, Aa, Ak, Ab]) | (show AW _ _ (.ret) _ _ _; refine Ar ?_; try dsimp only [Al, Aa, Ak, Ab])
    | (show DL _ _ _ _ _ _ _; refine dl_d Y Y (fun K kt kf => Au hG Y Y Y Y Y kt kf) (fun h => ?_) (fun h => ?_))
    | (show DL _ _ _ _ _ _ _; refine dl_s Y Y Y ?_) | (show DL _ _ _ _ _ _ _; refine B2 ?_; first | show AW _ _ _ _ _ _ | show ∃ x', _ < _ ∧ _) | (show AW _ _ (.region _ _ true) _ _ _; refine Bl mix (by kernel_rfl) ?_; intro O1) | fail)
          refine ⟨rfl, ⟨a1, [], pre, k, hp, by simp only [List.length_cons] at *; omega⟩, by simp only [List.length_cons]; omega, ?_, .refl _⟩
          exact .consW rfl (.eq (by simp [cT])) (.consW rfl (.eq (by simp [cT])) (.cons rfl (.cons rfl (.nil _))))
        · repeat' (first
    | ((first | (show AL _ _ _ _ _ _ _ _; refine Af Y ?_) | (show DL _ _ _ _ _ _ _; refine' Bs Y Y (fun K kk => ?_) ?_; try (show Go.Ts.T; rotate_left))); (first
      | (show AOp _ _ ⟨_, .move _, _, _, _, _⟩ _ _ _; refine Aq hG Y Y ?_)
      | (show AOp _ _ ⟨_, .assign _, _, _, _, _⟩ _ _ _; refine A7 hG Y Y ?_)
      | (show AOp _ _ ⟨_, .call ⟨.builtin .len, _, _⟩, _, _, _, _⟩ _ _ _; first | refine Ay hG Y Y Y Y ?_ | refine Bf hG Y Y Y Y Y ?_)
      | (show AOp _ _ ⟨_, .binOp .add _ _ _ _, _, _, _, _⟩ _ _ _; first | refine Az hG Y Y Y Y Y (by omega) ?_)
      | (show AOp _ _ ⟨_, .binOp _ _ _ _ _, _, _, _, _⟩ _ _ _; first | refine Av hG Y Y Y Y Y (by omega) ?_ | refine Aw hG Y Y Y Y Y (by omega) ?_ | ((fail_if_success have := kk); refine Au hG Y Y Y Y Y (fun h => ?_) (fun h => ?_)))
      | (show AOp _ _ ⟨_, .load _ _, _, _, _, _⟩ _ _ _; first | refine Bk hG Y Y Y ?_ | refine A9 0 hG Y Y Y Y ?_)
      | (show AOp _ _ ⟨_, .indexAddr _ _ _, _, _, _, _⟩ _ _ _; first | refine B6 hG Y Y Y Y Y Y Y ?_ | refine Bj hG Y Y Y Y Y Y Y (by omega) ?_ | refine Bi hG Y Y Y Y Y Y Y (by omega) ?_ | refine Bw hG Y Y ?_)
      | (show AOp _ _ ⟨_, .slice _ _ _ _ _, _, _, _, _⟩ _ _ _; first | refine Bb hG Y Y Y Y Y Y Y (by omega) ?_ | refine Bh hG Y Y Y Y Y Y Y (by omega) ?_ | refine r_sl hG Y Y ?_)
      | (show AOp _ _ ⟨_, .pick _ _ _, _, _, _, _⟩ _ _ _; refine Br hG Y Y Y ?_)
      | (show AOp _ _ ⟨_, .buildSlice _ _ _, _, _, _, _⟩ _ _ _; first | refine r_mk (sz := 1) hG Y Y Y Y Y Y Y ?_)
      | (show AOp _ _ ⟨_, .call ⟨.builtin .append, _, _⟩, _, _, _, _⟩ _ _ _; first | refine B3 0 (ys := [x]) hG Y Y Y Y Y Y Y ⟨_, Y⟩ Y Y Y Y Y (by simp only [List.length_append, List.length_map, List.length_cons, List.length_nil]; omega) (fun k => ?_) | refine Bz (sz := 1) (xs := []) hG Y Y Y Y Y Y Y ⟨_, Y⟩ Y Y Y Y Y Y Y (by first | omega | (simp; omega)) (fun k => ?_) | refine B3 0 hG Y Y Y Y Y Y Y ⟨_, Y⟩ Y Y Y Y Y (by first | omega | (simp only [List.length_append, List.length_cons, List.length_nil]; omega)) (fun k => ?_) | fail)
      | (show AOp _ _ ⟨_, .call ⟨.value _, _, _⟩, _, _, _, _⟩ _ _ _; first | refine Bc Y Y Y Y Y (by apply hk' <;> (first | assumption | omega | exact Ac _ _ | exact Ae _ | exact Ag _ _ | exact Ap _ | rfl | (simp; omega))) ?_ | fail)
      | refine r_q hG Y Y Y ?_); try exact kk)
    | (show AL _ _ _ _ _ _ _ _; first | refine Bn Y Y Y ?_ | (refine As ?_; first | show AW _ _ _ _ _ _ | show ∃ x', _ < _ ∧ _)) | (show AW _ _ (.seq _ _) _ _ _; refine Ah ?_; intro Q1) | (show AW _ _ (.region _ _ false) _ _ _; refine Ad ?_; intro O1) | (show AW _ _ (.cond _ _ _) _ _ _; first | refine Aj Y ?_ | refine Ai Y ?_) | (show AW _ _ (.skip) _ _ _; refine Am ?_; first | show AW _ _ _ _ _ _ | show ∃ x', _ < _ ∧ _) | (show AW _ _ (.goto _) _ _ _; refine Bm ?_; try dsimp only [Al, Aa, Ak, Ab]) | (show AW _ _ (.ret) _ _ _; refine Ar ?_; try dsimp only [Al, Aa, Ak, Ab])
    | (show DL _ _ _ _ _ _ _; refine dl_d Y Y (fun K kt kf => Au hG Y Y Y Y Y kt kf) (fun h => ?_) (fun h => ?_))
    | (show DL _ _ _ _ _ _ _; refine dl_s Y Y Y ?_) | (show DL _ _ _ _ _ _ _; refine B2 ?_; first | show AW _ _ _ _ _ _ | show ∃ x', _ < _ ∧ _) | (show AW _ _ (.region _ _ true) _ _ _; refine Bl mix (by kernel_rfl) ?_; intro O1) | fail)
          refine ⟨rfl, ⟨a1, [], pre ++ [x], _, by simpa using hp, by simp only [List.length_cons, List.length_append, List.length_nil] at *; omega⟩, by simp only [List.length_cons]; omega, ?_, .refl _⟩
          exact .consW rfl (.eq (by simp [cT])) (.consW rfl (.eq (by simp [cT])) (.cons rfl (.cons rfl (.nil _))))
      | cons y b1 =>
        have n2 : (y :: b1).length = b1.length + 1 := rfl
        rw [mergeK] at hp
        by_cases h1 : x < y
        · rw [if_pos h1] at hp
          rw [← hT_lt] at h1
          have hk' := hk true false
          cases hkk : keep true false <;> rw [hkk] at hk' hp
          · repeat' (first
    | ((first | (show AL _ _ _ _ _ _ _ _; refine Af Y ?_) | (show DL _ _ _ _ _ _ _; refine' Bs Y Y (fun K kk => ?_) ?_; try (show Go.Ts.T; rotate_left))); (first
      | (show AOp _ _ ⟨_, .move _, _, _, _, _⟩ _ _ _; refine Aq hG Y Y ?_)
      | (show AOp _ _ ⟨_, .assign _, _, _, _, _⟩ _ _ _; refine A7 hG Y Y ?_)
      | (show AOp _ _ ⟨_, .call ⟨.builtin .len, _, _⟩, _, _, _, _⟩ _ _ _; first | refine Ay hG Y Y Y Y ?_ | refine Bf hG Y Y Y Y Y ?_)
      | (show AOp _ _ ⟨_, .binOp .add _ _ _ _, _, _, _, _⟩ _ _ _; first | refine Az hG Y Y Y Y Y (by omega) ?_)
      | (show AOp _ _ ⟨_, .binOp _ _ _ _ _, _, _, _, _⟩ _ _ _; first | refine Av hG Y Y Y Y Y (by omega) ?_ | refine Aw hG Y Y Y Y Y (by omega) ?_ | ((fail_if_success have := kk); refine Au hG Y Y Y Y Y (fun h => ?_) (fun h => ?_)))
      | (show AOp _ _ ⟨_, .load _ _, _, _, _, _⟩ _ _ _; first | refine Bk hG Y Y Y ?_ | refine A9 0 hG Y Y Y Y ?_)
      | (show AOp _ _ ⟨_, .indexAddr _ _ _, _, _, _, _⟩ _ _ _; first | refine B6 hG Y Y Y Y Y Y Y ?_ | refine Bj hG Y Y Y Y Y Y Y (by omega) ?_ | refine Bi hG Y Y Y Y Y Y Y (by omega) ?_ | refine Bw hG Y Y ?_)
      | (show AOp _ _ ⟨_, .slice _ _ _ _ _, _, _, _, _⟩ _ _ _; first | refine Bb hG Y Y Y Y Y Y Y (by omega) ?_ | refine Bh hG Y Y Y Y Y Y Y (by omega) ?_ | refine r_sl hG Y Y ?_)
      | (show AOp _ _ ⟨_, .pick _ _ _, _, _, _, _⟩ _ _ _; refine Br hG Y Y Y ?_)
      | (show AOp _ _ ⟨_, .buildSlice _ _ _, _, _, _, _⟩ _ _ _; first | refine r_mk (sz := 1) hG Y Y Y Y Y Y Y ?_)
      | (show AOp _ _ ⟨_, .call ⟨.builtin .append, _, _⟩, _, _, _, _⟩ _ _ _; first | refine Bz (sz := 1) (xs := []) hG Y Y Y Y Y Y Y ⟨_, Y⟩ Y Y Y Y Y Y Y (by first | omega | (simp; omega)) (fun k => ?_) | refine B3 0 hG Y Y Y Y Y Y Y ⟨_, Y⟩ Y Y Y Y Y (by first | omega | (simp only [List.length_append, List.length_cons, List.length_nil]; omega)) (fun k => ?_) | fail)
      | (show AOp _ _ ⟨_, .call ⟨.value _, _, _⟩, _, _, _, _⟩ _ _ _; first | refine Bc Y Y Y Y Y (by apply hk' <;> (first | assumption | omega | exact Ac _ _ | exact Ae _ | exact Ag _ _ | exact Ap _ | rfl | (simp; omega))) ?_ | fail)
      | refine r_q hG Y Y Y ?_); try exact kk)
    | (show AL _ _ _ _ _ _ _ _; first | refine Bn Y Y Y ?_ | (refine As ?_; first | show AW _ _ _ _ _ _ | show ∃ x', _ < _ ∧ _)) | (show AW _ _ (.seq _ _) _ _ _; refine Ah ?_; intro Q1) | (show AW _ _ (.region _ _ false) _ _ _; refine Ad ?_; intro O1) | (show AW _ _ (.cond _ _ _) _ _ _; first | refine Aj Y ?_ | refine Ai Y ?_) | (show AW _ _ (.skip) _ _ _; refine Am ?_; first | show AW _ _ _ _ _ _ | show ∃ x', _ < _ ∧ _) | (show AW _ _ (.goto _) _ _ _; refine Bm ?_; try dsimp only [Al, Aa, Ak, Ab]) | (show AW _ _ (.ret) _ _ _; refine Ar ?_; try dsimp only [Al, Aa, Ak, Ab])
    | (show DL _ _ _ _ _ _ _; refine dl_d Y Y (fun K kt kf => Au hG Y Y Y Y Y kt kf) (fun h => ?_) (fun h => ?_))
    | (show DL _ _ _ _ _ _ _; refine dl_s Y Y Y ?_) | (show DL _ _ _ _ _ _ _; refine B2 ?_; first | show AW _ _ _ _ _ _ | show ∃ x', _ < _ ∧ _) | (show AW _ _ (.region _ _ true) _ _ _; refine Bl mix (by kernel_rfl) ?_; intro O1) | fail)
            refine ⟨rfl, ⟨a1, y :: b1, pre, k, hp, by simp only [List.length_cons] at *; omega⟩, by simp only [List.length_cons]; omega, ?_, .refl _⟩
            exact .consW rfl (.eq (by simp [cT])) (.consW rfl (.eq (by simp [cT])) (.cons rfl (.cons rfl (.nil _))))
          · repeat' (first
    | ((first | (show AL _ _ _ _ _ _ _ _; refine Af Y ?_) | (show DL _ _ _ _ _ _ _; refine' Bs Y Y (fun K kk => ?_) ?_; try (show Go.Ts.T; rotate_left))); (first
      | (show AOp _ _ ⟨_, .move _, _, _, _, _⟩ _ _ _; refine Aq hG Y Y ?_)
      | (show AOp _ _ ⟨_, .assign _, _, _, _, _⟩ _ _ _; refine A7 hG Y Y ?_)
      | (show AOp _ _ ⟨_, .call ⟨.builtin .len, _, _⟩, _, _, _, _⟩ _ _ _; first | refine Ay hG Y Y Y Y ?_ | refine Bf hG Y Y Y Y Y ?_)
      | (show AOp _ _ ⟨_, .binOp .add _ _ _ _, _, _, _, _⟩ _ _ _; first | refine Az hG Y Y Y Y Y (by omega) ?_)
      | (show AOp _ _ ⟨_, .binOp _ _ _ _ _, _, _, _, _⟩ _ _ _; first | refine Av hG Y Y Y Y Y (by omega) ?_ | refine Aw hG Y Y Y Y Y (by omega) ?_ | ((fail_if_success have := kk); refine Au hG Y Y Y Y Y (fun h => ?_) (fun h => ?_)))
      | (show AOp _ _ ⟨_, .load _ _, _, _, _, _⟩ _ _ _; first | refine Bk hG Y Y Y ?_ | refine A9 0 hG Y Y Y Y ?_)
      | (show AOp _ _ ⟨_, .indexAddr _ _ _, _, _, _, _⟩ _ _ _; first | refine B6 hG Y Y Y Y Y Y Y ?_ | refine Bj hG Y Y Y Y Y Y Y (by omega) ?_ | refine Bi hG Y Y Y Y Y Y Y (by omega) ?_ | refine Bw hG Y Y ?_)
      | (show AOp _ _ ⟨_, .slice _ _ _ _ _, _, _, _, _⟩ _ _ _; first | refine Bb hG Y Y Y Y Y Y Y (by omega) ?_ | refine Bh hG Y Y Y Y Y Y Y (by omega) ?_ | refine r_sl hG Y Y ?_)
      | (show AOp _ _ ⟨_, .pick _ _ _, _, _, _, _⟩ _ _ _; refine Br hG Y Y Y ?_)
      | (show AOp _ _ ⟨_, .buildSlice _ _ _, _, _, _, _⟩ _ _ _; first | refine r_mk (sz := 1) hG Y Y Y Y Y Y Y ?_)
      | (show AOp _ _ ⟨_, .call ⟨.builtin .append, _, _⟩, _, _, _, _⟩ _ _ _; first | refine B3 0 (ys := [x]) hG Y Y Y Y Y Y Y ⟨_, Y⟩ Y Y Y Y Y (by simp only [List.length_append, List.length_map, List.length_cons, List.length_nil]; omega) (fun k => ?_) | refine Bz (sz := 1) (xs := []) hG Y Y Y Y Y Y Y ⟨_, Y⟩ Y Y Y Y Y Y Y (by first | omega | (simp; omega)) (fun k => ?_) | refine B3 0 hG Y Y Y Y Y Y Y ⟨_, Y⟩ Y Y Y Y Y (by first | omega | (simp only [List.length_append, List.length_cons, List.length_nil]; omega)) (fun k => ?_) | fail)
      | (show AOp _ _ ⟨_, .call ⟨.value _, _, _⟩, _, _, _, _⟩ _ _ _; first | refine Bc Y Y Y Y Y (by apply hk' <;> (first | assumption | omega | exact Ac _ _ | exact Ae _ | exact Ag _ _ | exact Ap _ | rfl | (simp; omega))) ?_ | fail)
      | refine r_q hG Y Y Y ?_); try exact kk)
    | (show AL _ _ _ _ _ _ _ _; first | refine Bn Y Y Y ?_ | (refine As ?_; first | show AW _ _ _ _ _ _ | show ∃ x', _ < _ ∧ _)) | (show AW _ _ (.seq _ _) _ _ _; refine Ah ?_; intro Q1) | (show AW _ _ (.region _ _ false) _ _ _; refine Ad ?_; intro O1) | (show AW _ _ (.cond _ _ _) _ _ _; first | refine Aj Y ?_ | refine Ai Y ?_) | (show AW _ _ (.skip) _ _ _; refine Am ?_; first | show AW _ _ _ _ _ _ | show ∃ x', _ < _ ∧ _) | (show AW _ _ (.goto _) _ _ _; refine Bm ?_; try dsimp only [Al, Aa, Ak, Ab]) | (show AW _ _ (.ret) _ _ _; refine Ar ?_; try dsimp only [Al, Aa, Ak, Ab])
    | (show DL _ _ _ _ _ _ _; refine dl_d Y Y (fun K kt kf => Au hG Y Y Y Y Y kt kf) (fun h => ?_) (fun h => ?_))
    | (show DL _ _ _ _ _ _ _; refine dl_s Y Y Y ?_) | (show DL _ _ _ _ _ _ _; refine B2 ?_; first | show AW _ _ _ _ _ _ | show ∃ x', _ < _ ∧ _) | (show AW _ _ (.region _ _ true) _ _ _; refine Bl mix (by kernel_rfl) ?_; intro O1) | fail)
            refine ⟨rfl, ⟨a1, y :: b1, pre ++ [x], _, by simpa using hp, by simp only [List.length_cons, List.length_append, List.length_nil] at *; omega⟩, by simp only [List.length_cons]; omega, ?_, .refl _⟩
            exact .consW rfl (.eq (by simp [cT])) (.consW rfl (.eq (by simp [cT])) (.cons rfl (.cons rfl (.nil _))))
        · rw [if_neg h1] at hp
          rw [← hT_lt] at h1
          by_cases h2 : y < x
          · rw [if_pos h2] at hp
            rw [← hT_lt] at h2
            have hk' := hk false true
            cases hkk : keep false true <;> rw [hkk] at hk' hp
            · repeat' (first
    | ((first | (show AL _ _ _ _ _ _ _ _; refine Af Y ?_) | (show DL _ _ _ _ _ _ _; refine' Bs Y Y (fun K kk => ?_) ?_; try (show Go.Ts.T; rotate_left))); (first
      | (show AOp _ _ ⟨_, .move _, _, _, _, _⟩ _ _ _; refine Aq hG Y Y ?_)
      | (show AOp _ _ ⟨_, .assign _, _, _, _, _⟩ _ _ _; refine A7 hG Y Y ?_)
      | (show AOp _ _ ⟨_, .call ⟨.builtin .len, _, _⟩, _, _, _, _⟩ _ _ _; first | refine Ay hG Y Y Y Y ?_ | refine Bf hG Y Y Y Y Y ?_)
      | (show AOp _ _ ⟨_, .binOp .add _ _ _ _, _, _, _, _⟩ _ _ _; first | refine Az hG Y Y Y Y Y (by omega) ?_)
      | (show AOp _ _ ⟨_, .binOp _ _ _ _ _, _, _, _, _⟩ _ _ _; first | refine Av hG Y Y Y Y Y (by omega) ?_ | refine Aw hG Y Y Y Y Y (by omega) ?_ | ((fail_if_success have := kk); refine Au hG Y Y Y Y Y (fun h => ?_) (fun h => ?_)))
      | (show AOp _ _ ⟨_, .load _ _, _, _, _, _⟩ _ _ _; first | refine Bk hG Y Y Y ?_ | refine A9 0 hG Y Y Y Y ?_)
      | (show AOp _ _ ⟨_, .indexAddr _ _ _, _, _, _, _⟩ _ _ _; first | refine B6 hG Y Y Y Y Y Y Y ?_ | refine Bj hG Y Y Y Y Y Y Y (by omega) ?_ | refine Bi hG Y Y Y Y Y Y Y (by omega) ?_ | refine Bw hG Y Y ?_)
      | (show AOp _ _ ⟨_, .slice _ _ _ _ _, _, _, _, _⟩ _ _ _; first | refine Bb hG Y Y Y Y Y Y Y (by omega) ?_ | refine Bh hG Y Y Y Y Y Y Y (by omega) ?_ | refine r_sl hG Y Y ?_)
      | (show AOp _ _ ⟨_, .pick _ _ _, _, _, _, _⟩ _ _ _; refine Br hG Y Y Y ?_)
      | (show AOp _ _ ⟨_, .buildSlice _ _ _, _, _, _, _⟩ _ _ _; first | refine r_mk (sz := 1) hG Y Y Y Y Y Y Y ?_)
      | (show AOp _ _ ⟨_, .call ⟨.builtin .append, _, _⟩, _, _, _, _⟩ _ _ _; first | refine Bz (sz := 1) (xs := []) hG Y Y Y Y Y Y Y ⟨_, Y⟩ Y Y Y Y Y Y Y (by first | omega | (simp; omega)) (fun k => ?_) | refine B3 0 hG Y Y Y Y Y Y Y ⟨_, Y⟩ Y Y Y Y Y (by first | omega | (simp only [List.length_append, List.length_cons, List.length_nil]; omega)) (fun k => ?_) | fail)
      | (show AOp _ _ ⟨_, .call ⟨.value _, _, _⟩, _, _, _, _⟩ _ _ _; first | refine Bc Y Y Y Y Y (by apply hk' <;> (first | assumption | omega | exact Ac _ _ | exact Ae _ | exact Ag _ _ | exact Ap _ | rfl | (simp; omega))) ?_ | fail)
      | refine r_q hG Y Y Y ?_); try exact kk)
    | (show AL _ _ _ _ _ _ _ _; first | refine Bn Y Y Y ?_ | (refine As ?_; first | show AW _ _ _ _ _ _ | show ∃ x', _ < _ ∧ _)) | (show AW _ _ (.seq _ _) _ _ _; refine Ah ?_; intro Q1) | (show AW _ _ (.region _ _ false) _ _ _; refine Ad ?_; intro O1) | (show AW _ _ (.cond _ _ _) _ _ _; first | refine Aj Y ?_ | refine Ai Y ?_) | (show AW _ _ (.skip) _ _ _; refine Am ?_; first | show AW _ _ _ _ _ _ | show ∃ x', _ < _ ∧ _) | (show AW _ _ (.goto _) _ _ _; refine Bm ?_; try dsimp only [Al, Aa, Ak, Ab]) | (show AW _ _ (.ret) _ _ _; refine Ar ?_; try dsimp only [Al, Aa, Ak, Ab])
    | (show DL _ _ _ _ _ _ _; refine dl_d Y Y (fun K kt kf => Au hG Y Y Y Y Y kt kf) (fun h => ?_) (fun h => ?_))
    | (show DL _ _ _ _ _ _ _; refine dl_s Y Y Y ?_) | (show DL _ _ _ _ _ _ _; refine B2 ?_; first | show AW _ _ _ _ _ _ | show ∃ x', _ < _ ∧ _) | (show AW _ _ (.region _ _ true) _ _ _; refine Bl mix (by kernel_rfl) ?_; intro O1) | fail)
              refine ⟨rfl, ⟨x :: a1, b1, pre, k, hp, by simp only [List.length_cons] at *; omega⟩, by simp only [List.length_cons]; omega, ?_, .refl _⟩
              exact .consW rfl (.eq (by simp [cT])) (.consW rfl (.eq (by simp [cT])) (.cons rfl (.cons rfl (.nil _))))
            · repeat' (first
    | ((first | (show AL _ _ _ _ _ _ _ _; refine Af Y ?_) | (show DL _ _ _ _ _ _ _; refine' Bs Y Y (fun K kk => ?_) ?_; try (show Go.Ts.T; rotate_left))); (first
      | (show AOp _ _ ⟨_, .move _, _, _, _, _⟩ _ _ _; refine Aq hG Y Y ?_)
      | (show AOp _ _ ⟨_, .assign _, _, _, _, _⟩ _ _ _; refine A7 hG Y Y ?_)
      | (show AOp _ _ ⟨_, .call ⟨.builtin .len, _, _⟩, _, _, _, _⟩ _ _ _; first | refine Ay hG Y Y Y Y ?_ | refine Bf hG Y Y Y Y Y ?_)
      | (show AOp _ _ ⟨_, .binOp .add _ _ _ _, _, _, _, _⟩ _ _ _; first | refine Az hG Y Y Y Y Y (by omega) ?_)
      | (show AOp _ _ ⟨_, .binOp _ _ _ _ _, _, _, _, _⟩ _ _ _; first | refine Av hG Y Y Y Y Y (by omega) ?_ | refine Aw hG Y Y Y Y Y (by omega) ?_ | ((fail_if_success have := kk); refine Au hG Y Y Y Y Y (fun h => ?_) (fun h => ?_)))
      | (show AOp _ _ ⟨_, .load _ _, _, _, _, _⟩ _ _ _; first | refine Bk hG Y Y Y ?_ | refine A9 0 hG Y Y Y Y ?_)
      | (show AOp _ _ ⟨_, .indexAddr _ _ _, _, _, _, _⟩ _ _ _; first | refine B6 hG Y Y Y Y Y Y Y ?_ | refine Bj hG Y Y Y Y Y Y Y (by omega) ?_ | refine Bi hG Y Y Y Y Y Y Y (by omega) ?_ | refine Bw hG Y Y ?_)
      | (show AOp _ _ ⟨_, .slice _ _ _ _ _, _, _, _, _⟩ _ _ _; first | refine Bb hG Y Y Y Y Y Y Y (by omega) ?_ | refine Bh hG Y Y Y Y Y Y Y (by omega) ?_ | refine r_sl hG Y Y ?_)
      | (show AOp _ _ ⟨_, .pick _ _ _, _, _, _, _⟩ _ _ _; refine Br hG Y Y Y ?_)
      | (show AOp _ _ ⟨_, .buildSlice _ _ _, _, _, _, _⟩ _ _ _; first | refine r_mk (sz := 1) hG Y Y Y Y Y Y Y ?_)
      | (show AOp _ _ ⟨_, .call ⟨.builtin .append, _, _⟩, _, _, _, _⟩ _ _ _; first | refine B3 0 (ys := [y]) hG Y Y Y Y Y Y Y ⟨_, Y⟩ Y Y Y Y Y (by simp only [List.length_append, List.length_map, List.length_cons, List.length_nil]; omega) (fun k => ?_) | refine Bz (sz := 1) (xs := []) hG Y Y Y Y Y Y Y ⟨_, Y⟩ Y Y Y Y Y Y Y (by first | omega | (simp; omega)) (fun k => ?_) | refine B3 0 hG Y Y Y Y Y Y Y ⟨_, Y⟩ Y Y Y Y Y (by first | omega | (simp only [List.length_append, List.length_cons, List.length_nil]; omega)) (fun k => ?_) | fail)
      | (show AOp _ _ ⟨_, .call ⟨.value _, _, _⟩, _, _, _, _⟩ _ _ _; first | refine Bc Y Y Y Y Y (by apply hk' <;> (first | assumption | omega | exact Ac _ _ | exact Ae _ | exact Ag _ _ | exact Ap _ | rfl | (simp; omega))) ?_ | fail)
      | refine r_q hG Y Y Y ?_); try exact kk)
    | (show AL _ _ _ _ _ _ _ _; first | refine Bn Y Y Y ?_ | (refine As ?_; first | show AW _ _ _ _ _ _ | show ∃ x', _ < _ ∧ _)) | (show AW _ _ (.seq _ _) _ _ _; refine Ah ?_; intro Q1) | (show AW _ _ (.region _ _ false) _ _ _; refine Ad ?_; intro O1) | (show AW _ _ (.cond _ _ _) _ _ _; first | refine Aj Y ?_ | refine Ai Y ?_) | (show AW _ _ (.skip) _ _ _; refine Am ?_; first | show AW _ _ _ _ _ _ | show ∃ x', _ < _ ∧ _) | (show AW _ _ (.goto _) _ _ _; refine Bm ?_; try dsimp only [Al, Aa, Ak, Ab]) | (show AW _ _ (.ret) _ _ _; refine Ar ?_; try dsimp only [Al, Aa, Ak, Ab])
    | (show DL _ _ _ _ _ _ _; refine dl_d Y Y (fun K kt kf => Au hG Y Y Y Y Y kt kf) (fun h => ?_) (fun h => ?_))
    | (show DL _ _ _ _ _ _ _; refine dl_s Y Y Y ?_) | (show DL _ _ _ _ _ _ _; refine B2 ?_; first | show AW _ _ _ _ _ _ | show ∃ x', _ < _ ∧ _) | (show AW _ _ (.region _ _ true) _ _ _; refine Bl mix (by kernel_rfl) ?_; intro O1) | fail)
              refine ⟨rfl, ⟨x :: a1, b1, pre ++ [y], _, by simpa using hp, by simp only [List.length_cons, List.length_append, List.length_nil] at *; omega⟩, by simp only [List.length_cons]; omega, ?_, .refl _⟩
              exact .consW rfl (.eq (by simp [cT])) (.consW rfl (.eq (by simp [cT])) (.cons rfl (.cons rfl (.nil _))))
          · rw [if_neg h2] at hp
            rw [← hT_lt] at h2
            have hk' := hk true true
            cases hkk : keep true true <;> rw [hkk] at hk' hp
            · repeat' (first
    | ((first | (show AL _ _ _ _ _ _ _ _; refine Af Y ?_) | (show DL _ _ _ _ _ _ _; refine' Bs Y Y (fun K kk => ?_) ?_; try (show Go.Ts.T; rotate_left))); (first
      | (show AOp _ _ ⟨_, .move _, _, _, _, _⟩ _ _ _; refine Aq hG Y Y ?_)
      | (show AOp _ _ ⟨_, .assign _, _, _, _, _⟩ _ _ _; refine A7 hG Y Y ?_)
      | (show AOp _ _ ⟨_, .call ⟨.builtin .len, _, _⟩, _, _, _, _⟩ _ _ _; first | refine Ay hG Y Y Y Y ?_ | refine Bf hG Y Y Y Y Y ?_)
      | (show AOp _ _ ⟨_, .binOp .add _ _ _ _, _, _, _, _⟩ _ _ _; first | refine Az hG Y Y Y Y Y (by omega) ?_)
      | (show AOp _ _ ⟨_, .binOp _ _ _ _ _, _, _, _, _⟩ _ _ _; first | refine Av hG Y Y Y Y Y (by omega) ?_ | refine Aw hG Y Y Y Y Y (by omega) ?_ | ((fail_if_success have := kk); refine Au hG Y Y Y Y Y (fun h => ?_) (fun h => ?_)))
      | (show AOp _ _ ⟨_, .load _ _, _, _, _, _⟩ _ _ _; first | refine Bk hG Y Y Y ?_ | refine A9 0 hG Y Y Y Y ?_)
      | (show AOp _ _ ⟨_, .indexAddr _ _ _, _, _, _, _⟩ _ _ _; first | refine B6 hG Y Y Y Y Y Y Y ?_ | refine Bj hG Y Y Y Y Y Y Y (by omega) ?_ | refine Bi hG Y Y Y Y Y Y Y (by omega) ?_ | refine Bw hG Y Y ?_)
      | (show AOp _ _ ⟨_, .slice _ _ _ _ _, _, _, _, _⟩ _ _ _; first | refine Bb hG Y Y Y Y Y Y Y (by omega) ?_ | refine Bh hG Y Y Y Y Y Y Y (by omega) ?_ | refine r_sl hG Y Y ?_)
      | (show AOp _ _ ⟨_, .pick _ _ _, _, _, _, _⟩ _ _ _; refine Br hG Y Y Y ?_)
      | (show AOp _ _ ⟨_, .buildSlice _ _ _, _, _, _, _⟩ _ _ _; first | refine r_mk (sz := 1) hG Y Y Y Y Y Y Y ?_)
      | (show AOp _ _ ⟨_, .call ⟨.builtin .append, _, _⟩, _, _, _, _⟩ _ _ _; first | refine Bz (sz := 1) (xs := []) hG Y Y Y Y Y Y Y ⟨_, Y⟩ Y Y Y Y Y Y Y (by first | omega | (simp; omega)) (fun k => ?_) | refine B3 0 hG Y Y Y Y Y Y Y ⟨_, Y⟩ Y Y Y Y Y (by first | omega | (simp only [List.length_append, List.length_cons, List.length_nil]; omega)) (fun k => ?_) | fail)
      | (show AOp _ _ ⟨_, .call ⟨.value _, _, _⟩, _, _, _, _⟩ _ _ _; first | refine Bc Y Y Y Y Y (by apply hk' <;> (first | assumption | omega | exact Ac _ _ | exact Ae _ | exact Ag _ _ | exact Ap _ | rfl | (simp; omega))) ?_ | fail)
      | refine r_q hG Y Y Y ?_); try exact kk)
    | (show AL _ _ _ _ _ _ _ _; first | refine Bn Y Y Y ?_ | (refine As ?_; first | show AW _ _ _ _ _ _ | show ∃ x', _ < _ ∧ _)) | (show AW _ _ (.seq _ _) _ _ _; refine Ah ?_; intro Q1) | (show AW _ _ (.region _ _ false) _ _ _; refine Ad ?_; intro O1) | (show AW _ _ (.cond _ _ _) _ _ _; first | refine Aj Y ?_ | refine Ai Y ?_) | (show AW _ _ (.skip) _ _ _; refine Am ?_; first | show AW _ _ _ _ _ _ | show ∃ x', _ < _ ∧ _) | (show AW _ _ (.goto _) _ _ _; refine Bm ?_; try dsimp only [Al, Aa, Ak, Ab]) | (show AW _ _ (.ret) _ _ _; refine Ar ?_; try dsimp only [Al, Aa, Ak, Ab])
    | (show DL _ _ _ _ _ _ _; refine dl_d Y Y (fun K kt kf => Au hG Y Y Y Y Y kt kf) (fun h => ?_) (fun h => ?_))
    | (show DL _ _ _ _ _ _ _; refine dl_s Y Y Y ?_) | (show DL _ _ _ _ _ _ _; refine B2 ?_; first | show AW _ _ _ _ _ _ | show ∃ x', _ < _ ∧ _) | (show AW _ _ (.region _ _ true) _ _ _; refine Bl mix (by kernel_rfl) ?_; intro O1) | fail)
              refine ⟨rfl, ⟨a1, b1, pre, k, hp, by simp only [List.length_cons] at *; omega⟩, by simp only [List.length_cons]; omega, ?_, .refl _⟩
              exact .consW rfl (.eq (by simp [cT])) (.consW rfl (.eq (by simp [cT])) (.cons rfl (.cons rfl (.nil _))))
            · repeat' (first
    | ((first | (show AL _ _ _ _ _ _ _ _; refine Af Y ?_) | (show DL _ _ _ _ _ _ _; refine' Bs Y Y (fun K kk => ?_) ?_; try (show Go.Ts.T; rotate_left))); (first
      | (show AOp _ _ ⟨_, .move _, _, _, _, _⟩ _ _ _; refine Aq hG Y Y ?_)
      | (show AOp _ _ ⟨_, .assign _, _, _, _, _⟩ _ _ _; refine A7 hG Y Y ?_)
      | (show AOp _ _ ⟨_, .call ⟨.builtin .len, _, _⟩, _, _, _, _⟩ _ _ _; first | refine Ay hG Y Y Y Y ?_ | refine Bf hG Y Y Y Y Y ?_)
      | (show AOp _ _ ⟨_, .binOp .add _ _ _ _, _, _, _, _⟩ _ _ _; first | refine Az hG Y Y Y Y Y (by omega) ?_)
      | (show AOp _ _ ⟨_, .binOp _ _ _ _ _, _, _, _, _⟩ _ _ _; first | refine Av hG Y Y Y Y Y (by omega) ?_ | refine Aw hG Y Y Y Y Y (by omega) ?_ | ((fail_if_success have := kk); refine Au hG Y Y Y Y Y (fun h => ?_) (fun h => ?_)))
      | (show AOp _ _ ⟨_, .load _ _, _, _, _, _⟩ _ _ _; first | refine Bk hG Y Y Y ?_ | refine A9 0 hG Y Y Y Y ?_)
      | (show AOp _ _ ⟨_, .indexAddr _ _ _, _, _, _, _⟩ _ _ _; first | refine B6 hG Y Y Y Y Y Y Y ?_ | refine Bj hG Y Y Y Y Y Y Y (by omega) ?_ | refine Bi hG Y Y Y Y Y Y Y (by omega) ?_ | refine Bw hG Y Y ?_)
      | (show AOp _ _ ⟨_, .slice _ _ _ _ _, _, _, _, _⟩ _ _ _; first | refine Bb hG Y Y Y Y Y Y Y (by omega) ?_ | refine Bh hG Y Y Y Y Y Y Y (by omega) ?_ | refine r_sl hG Y Y ?_)
      | (show AOp _ _ ⟨_, .pick _ _ _, _, _, _, _⟩ _ _ _; refine Br hG Y Y Y ?_)
      | (show AOp _ _ ⟨_, .buildSlice _ _ _, _, _, _, _⟩ _ _ _; first | refine r_mk (sz := 1) hG Y Y Y Y Y Y Y ?_)
      | (show AOp _ _ ⟨_, .call ⟨.builtin .append, _, _⟩, _, _, _, _⟩ _ _ _; first | refine B3 0 (ys := [x]) hG Y Y Y Y Y Y Y ⟨_, Y⟩ Y Y Y Y Y (by simp only [List.length_append, List.length_map, List.length_cons, List.length_nil]; omega) (fun k => ?_) | refine Bz (sz := 1) (xs := []) hG Y Y Y Y Y Y Y ⟨_, Y⟩ Y Y Y Y Y Y Y (by first | omega | (simp; omega)) (fun k => ?_) | refine B3 0 hG Y Y Y Y Y Y Y ⟨_, Y⟩ Y Y Y Y Y (by first | omega | (simp only [List.length_append, List.length_cons, List.length_nil]; omega)) (fun k => ?_) | fail)
      | (show AOp _ _ ⟨_, .call ⟨.value _, _, _⟩, _, _, _, _⟩ _ _ _; first | refine Bc Y Y Y Y Y (by apply hk' <;> (first | assumption | omega | exact Ac _ _ | exact Ae _ | exact Ag _ _ | exact Ap _ | rfl | (simp; omega))) ?_ | fail)
      | refine r_q hG Y Y Y ?_); try exact kk)
    | (show AL _ _ _ _ _ _ _ _; first | refine Bn Y Y Y ?_ | (refine As ?_; first | show AW _ _ _ _ _ _ | show ∃ x', _ < _ ∧ _)) | (show AW _ _ (.seq _ _) _ _ _; refine Ah ?_; intro Q1) | (show AW _ _ (.region _ _ false) _ _ _; refine Ad ?_; intro O1) | (show AW _ _ (.cond _ _ _) _ _ _; first | refine Aj Y ?_ | refine Ai Y ?_) | (show AW _ _ (.skip) _ _ _; refine Am ?_; first | show AW _ _ _ _ _ _ | show ∃ x', _ < _ ∧ _) | (show AW _ _ (.goto _) _ _ _; refine Bm ?_; try dsimp only [Al, Aa, Ak, Ab]) | (show AW _ _ (.ret) _ _ _; refine Ar ?_; try dsimp only [Al, Aa, Ak, Ab])
    | (show DL _ _ _ _ _ _ _; refine dl_d Y Y (fun K kt kf => Au hG Y Y Y Y Y kt kf) (fun h => ?_) (fun h => ?_))
    | (show DL _ _ _ _ _ _ _; refine dl_s Y Y Y ?_) | (show DL _ _ _ _ _ _ _; refine B2 ?_; first | show AW _ _ _ _ _ _ | show ∃ x', _ < _ ∧ _) | (show AW _ _ (.region _ _ true) _ _ _; refine Bl mix (by kernel_rfl) ?_; intro O1) | fail)
              refine ⟨rfl, ⟨a1, b1, pre ++ [x], _, by simpa using hp, by simp only [List.length_cons, List.length_append, List.length_nil] at *; omega⟩, by simp only [List.length_cons]; omega, ?_, .refl _⟩
              exact .consW rfl (.eq (by simp [cT])) (.consW rfl (.eq (by simp [cT])) (.cons rfl (.cons rfl (.nil _))))
  · intro key
    repeat' (first
    | ((first | (show AL _ _ _ _ _ _ _ _; refine Af Y ?_) | (show DL _ _ _ _ _ _ _; refine' Bs Y Y (fun K kk => ?_) ?_; try (show Go.Ts.T; rotate_left))); (first
      | (show AOp _ _ ⟨_, .move _, _, _, _, _⟩ _ _ _; refine Aq hG Y Y ?_)
      | (show AOp _ _ ⟨_, .assign _, _, _, _, _⟩ _ _ _; refine A7 hG Y Y ?_)
      | (show AOp _ _ ⟨_, .call ⟨.builtin .len, _, _⟩, _, _, _, _⟩ _ _ _; first | refine Ay hG Y Y Y Y ?_ | refine Bf hG Y Y Y Y Y ?_)
      | (show AOp _ _ ⟨_, .binOp .add _ _ _ _, _, _, _, _⟩ _ _ _; first | refine Az hG Y Y Y Y Y (by omega) ?_)
      | (show AOp _ _ ⟨_, .binOp _ _ _ _ _, _, _, _, _⟩ _ _ _; first | refine Av hG Y Y Y Y Y (by omega) ?_ | refine Aw hG Y Y Y Y Y (by omega) ?_ | ((fail_if_success have := kk); refine Au hG Y Y Y Y Y (fun h => ?_) (fun h => ?_)))
      | (show AOp _ _ ⟨_, .load _ _, _, _, _, _⟩ _ _ _; first | refine Bk hG Y Y Y ?_ | refine A9 0 hG Y Y Y Y ?_)
      | (show AOp _ _ ⟨_, .indexAddr _ _ _, _, _, _, _⟩ _ _ _; first | refine B6 hG Y Y Y Y Y Y Y ?_ | refine Bj hG Y Y Y Y Y Y Y (by omega) ?_ | refine Bi hG Y Y Y Y Y Y Y (by omega) ?_ | refine Bw hG Y Y ?_)
      | (show AOp _ _ ⟨_, .slice _ _ _ _ _, _, _, _, _⟩ _ _ _; first | refine Bb hG Y Y Y Y Y Y Y (by omega) ?_ | refine Bh hG Y Y Y Y Y Y Y (by omega) ?_ | refine r_sl hG Y Y ?_)
      | (show AOp _ _ ⟨_, .pick _ _ _, _, _, _, _⟩ _ _ _; refine Br hG Y Y Y ?_)
      | (show AOp _ _ ⟨_, .buildSlice _ _ _, _, _, _, _⟩ _ _ _; first | refine r_mk (sz := 1) hG Y Y Y Y Y Y Y ?_)
      | (show AOp _ _ ⟨_, .call ⟨.builtin .append, _, _⟩, _, _, _, _⟩ _ _ _; first | refine Bz (sz := 1) (xs := []) hG Y Y Y Y Y Y Y ⟨_, Y⟩ Y Y Y Y Y Y Y (by first | omega | (simp; omega)) (fun k => ?_) | refine B3 0 hG Y Y Y Y Y Y Y ⟨_, Y⟩ Y Y Y Y Y (by first | omega | (simp only [List.length_append, List.length_cons, List.length_nil]; omega)) (fun k => ?_) | fail)
      | refine r_q hG Y Y Y ?_); try exact kk)
    | (show AL _ _ _ _ _ _ _ _; first | refine Bn Y Y Y ?_ | (refine As ?_; first | show AW _ _ _ _ _ _ | show ∃ x', _ < _ ∧ _)) | (show AW _ _ (.seq _ _) _ _ _; refine Ah ?_; intro Q1) | (show AW _ _ (.region _ _ false) _ _ _; refine Ad ?_; intro O1) | (show AW _ _ (.cond _ _ _) _ _ _; first | refine Aj Y ?_ | refine Ai Y ?_) | (show AW _ _ (.skip) _ _ _; refine Am ?_; first | show AW _ _ _ _ _ _ | show ∃ x', _ < _ ∧ _) | (show AW _ _ (.goto _) _ _ _; refine Bm ?_; try dsimp only [Al, Aa, Ak, Ab]) | (show AW _ _ (.ret) _ _ _; refine Ar ?_; try dsimp only [Al, Aa, Ak, Ab])
    | (show DL _ _ _ _ _ _ _; refine dl_d Y Y (fun K kt kf => Au hG Y Y Y Y Y kt kf) (fun h => ?_) (fun h => ?_))
    | (show DL _ _ _ _ _ _ _; refine dl_s Y Y Y ?_) | (show DL _ _ _ _ _ _ _; refine B2 ?_; first | show AW _ _ _ _ _ _ | show ∃ x', _ < _ ∧ _) | (show AW _ _ (.region _ _ true) _ _ _; refine Bl mix (by kernel_rfl) ?_; intro O1) | fail)
    refine aw_label ?_
    show AW _ _ _ _ _ _
    refine aw_tok0 7 1 rfl rfl rfl rfl (fun k => ?_)
    refine aw_forget ?_ (key ⟨a, b, [], k, rfl, by simp⟩)
    exact .cons rfl (.cons rfl (.cons rfl (.cons rfl (.nil _))))
end Go.Proofs.Ytholeicgmkjadaa
namespace Go.Proofs.Ytholeicgmkjadaa
open Go.Ts Go.Sets
attribute [local irreducible] Go.Ts.AW Go.Ts.AOps Go.Ts.AL Go.Ts.AOp Go.Ts.ACalls Go.Ts.DL
theorem drop_tok {k : Nat} {R' : List Nat} {off : Nat → Nat → Prop} : Go.Ts.GStep ⟨[], k :: R', off, none⟩ ⟨[], [k], off, none⟩ :=
  keep_step (σ := ⟨[], k :: R', off, none⟩) (List.Sublist.refl _) (List.singleton_sublist.2 (by simp))
theorem num_Take_is {x : T} {b : List UInt8} {n e : Int} {v : Nat} (hx : bytesT x = some b) (h : takeE b n = (v, e)) : Pure Try.prog 48 [x, .int .i64 n] (.tup [.int .u64 v, .int .i64 e]) := by
  have := num_Take (n := n) hx; rw [h] at this; exact this
theorem rises_adj : ∀ l : List UInt16, risesB l = true ↔ ∀ j, j + 1 < l.length → l.getD j default < l.getD (j + 1) default
  | [] => by simp [risesB]
  | [x] => by simp [risesB]
  | x :: y :: r => by
    rw [risesB, Bool.and_eq_true, decide_eq_true_eq, rises_adj (y :: r)]
    constructor
    · rintro ⟨h1, h2⟩ j hj
      cases j with
      | zero => simpa using h1
      | succ j => have := h2 j (by simp at hj ⊢; omega); simpa using this
    · intro h
      refine ⟨by have := h 0 (by simp); simpa using this, fun j hj => ?_⟩
      have := h (j + 1) (by simp at hj ⊢; omega); simpa using this

theorem cats_Or1 (i t : Bool) : Pure Try.prog 77 [.bool i, .bool t] (.bool (kOr i t)) := by
  intro off
  refine Bv (N := 5) (rs := [.tmp 4]) hG Try.func77 rfl rfl rfl rfl rfl ?_
  repeat' (first
    | ((show AL _ _ _ _ _ _ _ _; refine Af Y ?_); (first
      | (show AOp _ _ ⟨_, .assign _, _, _, _, _⟩ _ _ _; refine A7 hG Y Y ?_)
      | refine r_q hG Y Y Y ?_))
    | (show AL _ _ _ _ _ _ _ _; first | refine Bn Y Y Y ?_ | (refine As ?_; first | show AW _ _ _ _ _ _ | show ∃ x', _ < _ ∧ _)) | (show AW _ _ (.seq _ _) _ _ _; refine Ah ?_; intro Q1) | (show AW _ _ (.region _ _ false) _ _ _; refine Ad ?_; intro O1) | (show AW _ _ (.ret) _ _ _; refine Ar ?_; try dsimp only [Al, Aa, Ak, Ab]) | fail)
  exact Be (Ao rfl A8) (.refl _) rfl
theorem cats_Or {x y : T} {a b : List UInt16} (hx : catsT x = some a) (hy : catsT y = some b) (hl : a.length + b.length ≤ 4294967000) :
    Owns Try.prog 47 [x, y] 1 ((mergeK kOr a b).map hT) := by
  refine Owns.weak (us := [cT a, cT b]) ?_ (wk2 (catsT_wk hx) (catsT_wk hy))
  intro off
  refine Bv (N := 8) (rs := [.tmp 4]) hG Try.func47 rfl rfl rfl rfl rfl ?_
  have hc := merge_any cats_Or1 (Ap a) (Ap b) hl
  repeat' (first
    | ((show AL _ _ _ _ _ _ _ _; refine Af Y ?_); (first
      | (show AOp _ _ ⟨_, .move _, _, _, _, _⟩ _ _ _; refine Aq hG Y Y ?_)
      | (show AOp _ _ ⟨_, .assign _, _, _, _, _⟩ _ _ _; refine A7 hG Y Y ?_)
      | (show AOp _ _ ⟨_, .call ⟨.value _, _, _⟩, _, _, _, _⟩ _ _ _; first | (refine r_owns Y Y Y Y Y (by apply hc <;> (first | assumption | omega | exact Ac _ _ | exact Ae _ | exact Ag _ _ | exact Ap _ | rfl | (simp; omega))) (fun k => ?_)) | (have := kk; clear this; refine Bc Y Y Y Y Y (Owns.pure (by apply hc <;> (first | assumption | omega | exact Ac _ _ | exact Ae _ | exact Ag _ _ | exact Ap _ | rfl | (simp; omega)))) ?_) | fail)
      | refine r_q hG Y Y Y ?_))
    | (show AL _ _ _ _ _ _ _ _; first | refine Bn Y Y Y ?_ | (refine As ?_; first | show AW _ _ _ _ _ _ | show ∃ x', _ < _ ∧ _)) | (show AW _ _ (.seq _ _) _ _ _; refine Ah ?_; intro Q1) | (show AW _ _ (.region _ _ false) _ _ _; refine Ad ?_; intro O1) | (show AW _ _ (.ret) _ _ _; refine Ar ?_; try dsimp only [Al, Aa, Ak, Ab]) | fail)
  exact ret_owns 0 (Ao rfl A8) rfl rfl rfl

structure RiX (a : List UInt16) where
  i : Nat
  hi : 1 ≤ i
  hp : ∀ j, j + 1 < i → j + 1 < a.length → a.getD j default < a.getD (j + 1) default
theorem cats_rises {x : T} {a : List UInt16} (hx : catsT x = some a) (hl : a.length ≤ 140737488351232) : Pure Try.prog 73 [x] (.bool (risesB a)) := by
  refine Pure.weak (us := [cT a]) ?_ (wk1 (catsT_wk hx))
  intro off
  refine Bv (N := 20) (rs := [.tmp 2]) hG Try.func73 rfl rfl rfl rfl rfl ?_
  repeat' (first
    | ((first | (show AL _ _ _ _ _ _ _ _; refine Af Y ?_) | (show DL _ _ _ _ _ _ _; refine' Bs Y Y (fun K kk => ?_) ?_; try (show Go.Ts.T; rotate_left))); (first
      | (show AOp _ _ ⟨_, .move _, _, _, _, _⟩ _ _ _; refine Aq hG Y Y ?_)
      | (show AOp _ _ ⟨_, .assign _, _, _, _, _⟩ _ _ _; refine A7 hG Y Y ?_)
      | (show AOp _ _ ⟨_, .call ⟨.builtin .len, _, _⟩, _, _, _, _⟩ _ _ _; first | refine Ay hG Y Y Y Y ?_ | refine Bf hG Y Y Y Y Y ?_)
      | (show AOp _ _ ⟨_, .binOp .add _ _ _ _, _, _, _, _⟩ _ _ _; first | refine Az hG Y Y Y Y Y (by omega) ?_)
      | (show AOp _ _ ⟨_, .binOp .sub _ _ _ _, _, _, _, _⟩ _ _ _; first | refine Az hG Y Y Y Y Y (by omega) ?_)
      | (show AOp _ _ ⟨_, .binOp _ _ _ _ _, _, _, _, _⟩ _ _ _; first | refine Av hG Y Y Y Y Y (by omega) ?_ | refine Aw hG Y Y Y Y Y (by omega) ?_ | ((fail_if_success have := kk); refine Au hG Y Y Y Y Y (fun h => ?_) (fun h => ?_)))
      | (show AOp _ _ ⟨_, .load _ _, _, _, _, _⟩ _ _ _; first | refine Bk hG Y Y Y ?_ | refine A9 0 hG Y Y Y Y ?_)
      | (show AOp _ _ ⟨_, .indexAddr _ _ _, _, _, _, _⟩ _ _ _; first | refine Bj hG Y Y Y Y Y Y Y (by omega) ?_ | refine Bi hG Y Y Y Y Y Y Y (by omega) ?_ | refine Bw hG Y Y ?_)
      | refine r_q hG Y Y Y ?_); try exact kk)
    | (show AL _ _ _ _ _ _ _ _; first | refine Bn Y Y Y ?_ | (refine As ?_; first | show AW _ _ _ _ _ _ | show ∃ x', _ < _ ∧ _)) | (show AW _ _ (.seq _ _) _ _ _; refine Ah ?_; intro Q1) | (show AW _ _ (.region _ _ false) _ _ _; refine Ad ?_; intro O1) | (show AW _ _ (.cond _ _ _) _ _ _; first | refine Aj Y ?_ | refine Ai Y ?_) | (show AW _ _ (.skip) _ _ _; refine Am ?_; first | show AW _ _ _ _ _ _ | show ∃ x', _ < _ ∧ _) | (show AW _ _ (.goto _) _ _ _; refine Bm ?_; try dsimp only [Al, Aa, Ak, Ab]) | (show AW _ _ (.ret) _ _ _; refine Ar ?_; try dsimp only [Al, Aa, Ak, Ab])
    | (show DL _ _ _ _ _ _ _; refine dl_d Y Y (fun K kt kf => Au hG Y Y Y Y Y kt kf) (fun h => ?_) (fun h => ?_))
    | (show DL _ _ _ _ _ _ _; refine dl_s Y Y Y ?_) | (show DL _ _ _ _ _ _ _; refine B2 ?_; first | show AW _ _ _ _ _ _ | show ∃ x', _ < _ ∧ _) | (show AW _ _ (.region _ _ true) _ _ _; refine Bl mix (by kernel_rfl) ?_; intro O1) | fail)
  refine aw_scope' 0 rfl (X := RiX a) (fun x => [(0, cT a), (3, .int .i64 x.i)]) (fun x => ⟨[], [], off, none⟩) (fun x => a.length - x.i) ?_ ?_
  · rintro ⟨i, hi, hp⟩
    dsimp only
    obtain ⟨i, rfl⟩ : ∃ j, i = j + 1 := ⟨i - 1, by omega⟩
    by_cases hib : i + 1 < a.length
    · have e : (((i + 1 : Nat) : Int) - 1).toNat = i := by omega
      repeat' (first
    | ((first | (show AL _ _ _ _ _ _ _ _; refine Af Y ?_) | (show DL _ _ _ _ _ _ _; refine' Bs Y Y (fun K kk => ?_) ?_; try (show Go.Ts.T; rotate_left))); (first
      | (show AOp _ _ ⟨_, .move _, _, _, _, _⟩ _ _ _; refine Aq hG Y Y ?_)
      | (show AOp _ _ ⟨_, .assign _, _, _, _, _⟩ _ _ _; refine A7 hG Y Y ?_)
      | (show AOp _ _ ⟨_, .call ⟨.builtin .len, _, _⟩, _, _, _, _⟩ _ _ _; first | refine Ay hG Y Y Y Y ?_ | refine Bf hG Y Y Y Y Y ?_)
      | (show AOp _ _ ⟨_, .binOp .add _ _ _ _, _, _, _, _⟩ _ _ _; first | refine Az hG Y Y Y Y Y (by omega) ?_)
      | (show AOp _ _ ⟨_, .binOp .sub _ _ _ _, _, _, _, _⟩ _ _ _; first | refine Az hG Y Y Y Y Y (by omega) ?_)
      | (show AOp _ _ ⟨_, .binOp _ _ _ _ _, _, _, _, _⟩ _ _ _; first | refine Av hG Y Y Y Y Y (by omega) ?_ | refine Aw hG Y Y Y Y Y (by omega) ?_ | ((fail_if_success have := kk); refine Au hG Y Y Y Y Y (fun h => ?_) (fun h => ?_)))
      | (show AOp _ _ ⟨_, .load _ _, _, _, _, _⟩ _ _ _; first | refine Bk hG Y Y Y ?_ | refine A9 0 hG Y Y Y Y ?_)
      | (show AOp _ _ ⟨_, .indexAddr _ _ _, _, _, _, _⟩ _ _ _; first | refine Bj hG Y Y Y Y Y Y Y (by omega) ?_ | refine Bi hG Y Y Y Y Y Y Y (by omega) ?_ | refine Bw hG Y Y ?_)
      | refine r_q hG Y Y Y ?_); try exact kk)
    | (show AL _ _ _ _ _ _ _ _; first | refine Bn Y Y Y ?_ | (refine As ?_; first | show AW _ _ _ _ _ _ | show ∃ x', _ < _ ∧ _)) | (show AW _ _ (.seq _ _) _ _ _; refine Ah ?_; intro Q1) | (show AW _ _ (.region _ _ false) _ _ _; refine Ad ?_; intro O1) | (show AW _ _ (.cond _ _ _) _ _ _; first | refine Aj Y ?_ | refine Ai Y ?_) | (show AW _ _ (.skip) _ _ _; refine Am ?_; first | show AW _ _ _ _ _ _ | show ∃ x', _ < _ ∧ _) | (show AW _ _ (.goto _) _ _ _; refine Bm ?_; try dsimp only [Al, Aa, Ak, Ab]) | (show AW _ _ (.ret) _ _ _; refine Ar ?_; try dsimp only [Al, Aa, Ak, Ab])
    | (show DL _ _ _ _ _ _ _; refine dl_d Y Y (fun K kt kf => Au hG Y Y Y Y Y kt kf) (fun h => ?_) (fun h => ?_))
    | (show DL _ _ _ _ _ _ _; refine dl_s Y Y Y ?_) | (show DL _ _ _ _ _ _ _; refine B2 ?_; first | show AW _ _ _ _ _ _ | show ∃ x', _ < _ ∧ _) | (show AW _ _ (.region _ _ true) _ _ _; refine Bl mix (by kernel_rfl) ?_; intro O1) | fail)
      · rw [e] at h
        refine Be (Ao rfl A8) (.eq ?_) rfl
        have : risesB a = false := Bool.eq_false_iff.2 fun hr => by
          have := (rises_adj a).1 hr i hib
          rw [UInt16.lt_iff_toNat_lt] at this; omega
        rw [this]; rfl
      · rw [e] at h
        refine ⟨rfl, ⟨i + 2, by omega, fun j h1 h2 => ?_⟩, by dsimp only; omega, ?_, .refl _⟩
        · by_cases hj : j + 1 < i + 1
          · exact hp j hj h2
          · obtain rfl : j = i := by omega
            rw [UInt16.lt_iff_toNat_lt]; omega
        · exact .cons rfl (.consW rfl (.int (by simp; omega)) (.nil _))
    · repeat' (first
    | ((first | (show AL _ _ _ _ _ _ _ _; refine Af Y ?_) | (show DL _ _ _ _ _ _ _; refine' Bs Y Y (fun K kk => ?_) ?_; try (show Go.Ts.T; rotate_left))); (first
      | (show AOp _ _ ⟨_, .move _, _, _, _, _⟩ _ _ _; refine Aq hG Y Y ?_)
      | (show AOp _ _ ⟨_, .assign _, _, _, _, _⟩ _ _ _; refine A7 hG Y Y ?_)
      | (show AOp _ _ ⟨_, .call ⟨.builtin .len, _, _⟩, _, _, _, _⟩ _ _ _; first | refine Ay hG Y Y Y Y ?_ | refine Bf hG Y Y Y Y Y ?_)
      | (show AOp _ _ ⟨_, .binOp .add _ _ _ _, _, _, _, _⟩ _ _ _; first | refine Az hG Y Y Y Y Y (by omega) ?_)
      | (show AOp _ _ ⟨_, .binOp .sub _ _ _ _, _, _, _, _⟩ _ _ _; first | refine Az hG Y Y Y Y Y (by omega) ?_)
      | (show AOp _ _ ⟨_, .binOp _ _ _ _ _, _, _, _, _⟩ _ _ _; first | refine Av hG Y Y Y Y Y (by omega) ?_ | refine Aw hG Y Y Y Y Y (by omega) ?_ | ((fail_if_success have := kk); refine Au hG Y Y Y Y Y (fun h => ?_) (fun h => ?_)))
      | (show AOp _ _ ⟨_, .load _ _, _, _, _, _⟩ _ _ _; first | refine Bk hG Y Y Y ?_ | refine A9 0 hG Y Y Y Y ?_)
      | (show AOp _ _ ⟨_, .indexAddr _ _ _, _, _, _, _⟩ _ _ _; first | refine Bj hG Y Y Y Y Y Y Y (by omega) ?_ | refine Bi hG Y Y Y Y Y Y Y (by omega) ?_ | refine Bw hG Y Y ?_)
      | refine r_q hG Y Y Y ?_); try exact kk)
    | (show AL _ _ _ _ _ _ _ _; first | refine Bn Y Y Y ?_ | (refine As ?_; first | show AW _ _ _ _ _ _ | show ∃ x', _ < _ ∧ _)) | (show AW _ _ (.seq _ _) _ _ _; refine Ah ?_; intro Q1) | (show AW _ _ (.region _ _ false) _ _ _; refine Ad ?_; intro O1) | (show AW _ _ (.cond _ _ _) _ _ _; first | refine Aj Y ?_ | refine Ai Y ?_) | (show AW _ _ (.skip) _ _ _; refine Am ?_; first | show AW _ _ _ _ _ _ | show ∃ x', _ < _ ∧ _) | (show AW _ _ (.goto _) _ _ _; refine Bm ?_; try dsimp only [Al, Aa, Ak, Ab]) | (show AW _ _ (.ret) _ _ _; refine Ar ?_; try dsimp only [Al, Aa, Ak, Ab])
    | (show DL _ _ _ _ _ _ _; refine dl_d Y Y (fun K kt kf => Au hG Y Y Y Y Y kt kf) (fun h => ?_) (fun h => ?_))
    | (show DL _ _ _ _ _ _ _; refine dl_s Y Y Y ?_) | (show DL _ _ _ _ _ _ _; refine B2 ?_; first | show AW _ _ _ _ _ _ | show ∃ x', _ < _ ∧ _) | (show AW _ _ (.region _ _ true) _ _ _; refine Bl mix (by kernel_rfl) ?_; intro O1) | fail)
      refine Be (Ao rfl A8) (.eq ?_) rfl
      have : risesB a = true := (rises_adj a).2 fun j hj => hp j (by omega) hj
      rw [this]; rfl
  · intro key
    repeat' (first
    | ((first | (show AL _ _ _ _ _ _ _ _; refine Af Y ?_) | (show DL _ _ _ _ _ _ _; refine' Bs Y Y (fun K kk => ?_) ?_; try (show Go.Ts.T; rotate_left))); (first
      | (show AOp _ _ ⟨_, .move _, _, _, _, _⟩ _ _ _; refine Aq hG Y Y ?_)
      | (show AOp _ _ ⟨_, .assign _, _, _, _, _⟩ _ _ _; refine A7 hG Y Y ?_)
      | (show AOp _ _ ⟨_, .call ⟨.builtin .len, _, _⟩, _, _, _, _⟩ _ _ _; first | refine Ay hG Y Y Y Y ?_ | refine Bf hG Y Y Y Y Y ?_)
      | (show AOp _ _ ⟨_, .binOp .add _ _ _ _, _, _, _, _⟩ _ _ _; first | refine Az hG Y Y Y Y Y (by omega) ?_)
      | (show AOp _ _ ⟨_, .binOp .sub _ _ _ _, _, _, _, _⟩ _ _ _; first | refine Az hG Y Y Y Y Y (by omega) ?_)
      | (show AOp _ _ ⟨_, .binOp _ _ _ _ _, _, _, _, _⟩ _ _ _; first | refine Av hG Y Y Y Y Y (by omega) ?_ | refine Aw hG Y Y Y Y Y (by omega) ?_ | ((fail_if_success have := kk); refine Au hG Y Y Y Y Y (fun h => ?_) (fun h => ?_)))
      | (show AOp _ _ ⟨_, .load _ _, _, _, _, _⟩ _ _ _; first | refine Bk hG Y Y Y ?_ | refine A9 0 hG Y Y Y Y ?_)
      | (show AOp _ _ ⟨_, .indexAddr _ _ _, _, _, _, _⟩ _ _ _; first | refine Bj hG Y Y Y Y Y Y Y (by omega) ?_ | refine Bi hG Y Y Y Y Y Y Y (by omega) ?_ | refine Bw hG Y Y ?_)
      | refine r_q hG Y Y Y ?_); try exact kk)
    | (show AL _ _ _ _ _ _ _ _; first | refine Bn Y Y Y ?_ | (refine As ?_; first | show AW _ _ _ _ _ _ | show ∃ x', _ < _ ∧ _)) | (show AW _ _ (.seq _ _) _ _ _; refine Ah ?_; intro Q1) | (show AW _ _ (.region _ _ false) _ _ _; refine Ad ?_; intro O1) | (show AW _ _ (.cond _ _ _) _ _ _; first | refine Aj Y ?_ | refine Ai Y ?_) | (show AW _ _ (.skip) _ _ _; refine Am ?_; first | show AW _ _ _ _ _ _ | show ∃ x', _ < _ ∧ _) | (show AW _ _ (.goto _) _ _ _; refine Bm ?_; try dsimp only [Al, Aa, Ak, Ab]) | (show AW _ _ (.ret) _ _ _; refine Ar ?_; try dsimp only [Al, Aa, Ak, Ab])
    | (show DL _ _ _ _ _ _ _; refine dl_d Y Y (fun K kt kf => Au hG Y Y Y Y Y kt kf) (fun h => ?_) (fun h => ?_))
    | (show DL _ _ _ _ _ _ _; refine dl_s Y Y Y ?_) | (show DL _ _ _ _ _ _ _; refine B2 ?_; first | show AW _ _ _ _ _ _ | show ∃ x', _ < _ ∧ _) | (show AW _ _ (.region _ _ true) _ _ _; refine Bl mix (by kernel_rfl) ?_; intro O1) | fail)
    refine aw_label ?_
    show AW _ _ _ _ _ _
    refine aw_forget ?_ (key ⟨1, by omega, fun j h1 h2 => by omega⟩)
    exact .cons rfl (.consW rfl (.int rfl) (.nil _))
def mayC (a : List UInt16) : Bool := decide (a.length ≤ 16) && risesB a
theorem cats_May {x : T} {a : List UInt16} (hx : catsT x = some a) (hl : a.length ≤ 140737488351232) : Pure Try.prog 44 [x] (.bool (mayC a)) := by
  refine Pure.weak (us := [cT a]) ?_ (wk1 (catsT_wk hx))
  intro off
  refine Bv (N := 10) (rs := [.tmp 2]) hG Try.func44 rfl rfl rfl rfl rfl ?_
  by_cases h : a.length ≤ 16
  · repeat' (first
    | ((show AL _ _ _ _ _ _ _ _; refine Af Y ?_); (first
      | (show AOp _ _ ⟨_, .move _, _, _, _, _⟩ _ _ _; refine Aq hG Y Y ?_)
      | (show AOp _ _ ⟨_, .assign _, _, _, _, _⟩ _ _ _; refine A7 hG Y Y ?_)
      | (show AOp _ _ ⟨_, .call ⟨.builtin .len, _, _⟩, _, _, _, _⟩ _ _ _; first | refine Ay hG Y Y Y Y ?_ | refine Bf hG Y Y Y Y Y ?_)
      | (show AOp _ _ ⟨_, .binOp _ _ _ _ _, _, _, _, _⟩ _ _ _; first | refine Av hG Y Y Y Y Y (by omega) ?_ | refine Aw hG Y Y Y Y Y (by omega) ?_ | (refine Au hG Y Y Y Y Y (fun h => ?_) (fun h => ?_)))
      | (show AOp _ _ ⟨_, .pick _ _ _, _, _, _, _⟩ _ _ _; refine Br hG Y Y Y ?_)
      | (show AOp _ _ ⟨_, .call ⟨.value _, _, _⟩, _, _, _, _⟩ _ _ _; first | refine Bc Y Y Y Y Y (by apply cats_rises <;> (first | assumption | omega | exact Ac _ _ | exact Ae _ | exact Ag _ _ | exact Ap _ | rfl | (simp; omega))) ?_ | fail)
      | refine r_q hG Y Y Y ?_))
    | (show AL _ _ _ _ _ _ _ _; first | refine Bn Y Y Y ?_ | (refine As ?_; first | show AW _ _ _ _ _ _ | show ∃ x', _ < _ ∧ _)) | (show AW _ _ (.seq _ _) _ _ _; refine Ah ?_; intro Q1) | (show AW _ _ (.region _ _ false) _ _ _; refine Ad ?_; intro O1) | (show AW _ _ (.ret) _ _ _; refine Ar ?_; try dsimp only [Al, Aa, Ak, Ab]) | fail)
    exact Be (Ao rfl A8) (.eq (by simp [mayC, h, tup1])) rfl
  · repeat' (first
    | ((show AL _ _ _ _ _ _ _ _; refine Af Y ?_); (first
      | (show AOp _ _ ⟨_, .move _, _, _, _, _⟩ _ _ _; refine Aq hG Y Y ?_)
      | (show AOp _ _ ⟨_, .assign _, _, _, _, _⟩ _ _ _; refine A7 hG Y Y ?_)
      | (show AOp _ _ ⟨_, .call ⟨.builtin .len, _, _⟩, _, _, _, _⟩ _ _ _; first | refine Ay hG Y Y Y Y ?_ | refine Bf hG Y Y Y Y Y ?_)
      | (show AOp _ _ ⟨_, .binOp _ _ _ _ _, _, _, _, _⟩ _ _ _; first | refine Av hG Y Y Y Y Y (by omega) ?_ | refine Aw hG Y Y Y Y Y (by omega) ?_ | (refine Au hG Y Y Y Y Y (fun h => ?_) (fun h => ?_)))
      | (show AOp _ _ ⟨_, .pick _ _ _, _, _, _, _⟩ _ _ _; refine Br hG Y Y Y ?_)
      | (show AOp _ _ ⟨_, .call ⟨.value _, _, _⟩, _, _, _, _⟩ _ _ _; first | refine Bc Y Y Y Y Y (by apply cats_rises <;> (first | assumption | omega | exact Ac _ _ | exact Ae _ | exact Ag _ _ | exact Ap _ | rfl | (simp; omega))) ?_ | fail)
      | refine r_q hG Y Y Y ?_))
    | (show AL _ _ _ _ _ _ _ _; first | refine Bn Y Y Y ?_ | (refine As ?_; first | show AW _ _ _ _ _ _ | show ∃ x', _ < _ ∧ _)) | (show AW _ _ (.seq _ _) _ _ _; refine Ah ?_; intro Q1) | (show AW _ _ (.region _ _ false) _ _ _; refine Ad ?_; intro O1) | (show AW _ _ (.ret) _ _ _; refine Ar ?_; try dsimp only [Al, Aa, Ak, Ab]) | fail)
    refine Be (Ao rfl A8) (.eq ?_) rfl
    rw [mayC, decide_eq_false h]; rfl

def putC (b : List UInt8) (a : List UInt16) : List UInt8 := b ++ putI a.length 1 ++ a.flatMap fun c => putI c.toNat 2
theorem flat2_length (l : List UInt16) : (l.flatMap fun c => putI c.toNat 2).length = 2 * l.length := by
  induction l with
  | nil => rfl
  | cons x l ih =>
    have : (putI x.toNat 2).length = 2 := by rw [putI, if_pos (by omega), be_length]; rfl
    rw [List.flatMap_cons, List.length_append, ih, this, List.length_cons]; omega
theorem flatMap_take {α β : Type} [Inhabited α] (l : List α) (f : α → List β) (i : Nat) (h : i < l.length) : (l.take (i + 1)).flatMap f = (l.take i).flatMap f ++ f (l.getD i default) := by
  rw [take_getD l i h, List.flatMap_append]; simp
structure CPX (a : List UInt16) where
  i : Nat
  k : Nat
  hi : i ≤ a.length
theorem cats_Put {x y : T} {b : List UInt8} {a : List UInt16} (hx : bytesT x = some b) (hy : catsT y = some a) (hl : b.length ≤ 4294000000) (hs : a.length ≤ 70000) :
    Owns Try.prog 23 [x, y] 1 ((putC b a).map bT) := by
  refine Owns.weak (us := [sT b, cT a]) ?_ (wk2 (bytesT_wk hx) (catsT_wk hy))
  intro off
  refine Bv (N := 25) (rs := [.tmp 4]) hG Try.func23 rfl rfl rfl rfl rfl ?_
  have hpl := putI_le a.length 1
  repeat' (first
    | ((show AL _ _ _ _ _ _ _ _; refine Af Y ?_); (first
      | (show AOp _ _ ⟨_, .move _, _, _, _, _⟩ _ _ _; refine Aq hG Y Y ?_)
      | (show AOp _ _ ⟨_, .assign _, _, _, _, _⟩ _ _ _; refine A7 hG Y Y ?_)
      | (show AOp _ _ ⟨_, .call ⟨.builtin .len, _, _⟩, _, _, _, _⟩ _ _ _; first | refine Ay hG Y Y Y Y ?_ | refine Bf hG Y Y Y Y Y ?_)
      | (show AOp _ _ ⟨_, .binOp .add _ _ _ _, _, _, _, _⟩ _ _ _; first | refine Az hG Y Y Y Y Y (by omega) ?_)
      | (show AOp _ _ ⟨_, .binOp _ _ _ _ _, _, _, _, _⟩ _ _ _; first | refine Av hG Y Y Y Y Y (by omega) ?_ | refine Aw hG Y Y Y Y Y (by omega) ?_ | (refine Au hG Y Y Y Y Y (fun h => ?_) (fun h => ?_)))
      | (show AOp _ _ ⟨_, .load _ _, _, _, _, _⟩ _ _ _; first | refine Bk hG Y Y Y ?_ | refine A9 0 hG Y Y Y Y ?_)
      | (show AOp _ _ ⟨_, .indexAddr _ _ _, _, _, _, _⟩ _ _ _; first | refine Bj hG Y Y Y Y Y Y Y (by omega) ?_ | refine Bi hG Y Y Y Y Y Y Y (by omega) ?_ | refine Bw hG Y Y ?_)
      | (show AOp _ _ ⟨_, .convert _ _ _, _, _, _, _⟩ _ _ _; first | refine r_cv16 hG Y Y Y Y Y Y ?_ | refine r_cv_u64 hG Y Y Y Y Y (by omega) ?_ | refine B0 hG Y Y Y Y Y ?_)
      | (show AOp _ _ ⟨_, .call ⟨.value _, _, _⟩, _, _, _, _⟩ _ _ _; first | (refine r_owns Y Y Y Y Y (by apply num_Put <;> (first | assumption | omega | exact Ac _ _ | exact Ae _ | exact Ag _ _ | exact Ap _ | rfl | (simp; omega))) (fun k => ?_)) | (have := kk; clear this; refine Bc Y Y Y Y Y (Owns.pure (by apply num_Put <;> (first | assumption | omega | exact Ac _ _ | exact Ae _ | exact Ag _ _ | exact Ap _ | rfl | (simp; omega)))) ?_) | fail)
      | refine r_q hG Y Y Y ?_))
    | (show AL _ _ _ _ _ _ _ _; first | refine Bn Y Y Y ?_ | (refine As ?_; first | show AW _ _ _ _ _ _ | show ∃ x', _ < _ ∧ _)) | (show AW _ _ (.seq _ _) _ _ _; refine Ah ?_; intro Q1) | (show AW _ _ (.region _ _ false) _ _ _; refine Ad ?_; intro O1) | (show AW _ _ (.cond _ _ _) _ _ _; first | refine Aj Y ?_ | refine Ai Y ?_) | (show AW _ _ (.skip) _ _ _; refine Am ?_; first | show AW _ _ _ _ _ _ | show ∃ x', _ < _ ∧ _) | (show AW _ _ (.block _ _) _ _ _; refine Ba ?_; intro Q1) | (show AW _ _ (.exit _) _ _ _; refine B4 ?_; first | show AW _ _ _ _ _ _ | show ∃ x', _ < _ ∧ _) | (show AW _ _ (.ret) _ _ _; refine Ar ?_; try dsimp only [Al, Aa, Ak, Ab]) | fail)
  refine aw_loop (X := CPX a) (fun x => [(13, cT a), (14, .int .i64 a.length), (15, .int .i64 x.i), (5, .sl 1 (.tok x.k) ((b ++ putI a.length 1 ++ (a.take x.i).flatMap fun c => putI c.toNat 2).map bT))]) (fun x => ⟨[], [x.k], off, none⟩) (fun x => a.length - x.i) ⟨0, _, Nat.zero_le _⟩ ?_ (.refl _) ?_
  · exact .cons rfl (.cons rfl (.consW rfl (.int rfl) (.consW rfl (.eq (by simp)) (.nil _))))
  rintro ⟨i, k, hi⟩
  dsimp only
  have hf := flat2_length (a.take i)
  have htl : (a.take i).length = i := by rw [List.length_take]; omega
  by_cases hib : i < a.length
  · have hft := flatMap_take a (fun c => putI c.toNat 2) i hib
    have hlen : (b ++ putI a.length 1 ++ (a.take i).flatMap fun c => putI c.toNat 2).length ≤ 4294967000 := by rw [List.length_append, List.length_append]; omega
    repeat' (first
    | ((show AL _ _ _ _ _ _ _ _; refine Af Y ?_); (first
      | (show AOp _ _ ⟨_, .move _, _, _, _, _⟩ _ _ _; refine Aq hG Y Y ?_)
      | (show AOp _ _ ⟨_, .assign _, _, _, _, _⟩ _ _ _; refine A7 hG Y Y ?_)
      | (show AOp _ _ ⟨_, .call ⟨.builtin .len, _, _⟩, _, _, _, _⟩ _ _ _; first | refine Ay hG Y Y Y Y ?_ | refine Bf hG Y Y Y Y Y ?_)
      | (show AOp _ _ ⟨_, .binOp .add _ _ _ _, _, _, _, _⟩ _ _ _; first | refine Az hG Y Y Y Y Y (by omega) ?_)
      | (show AOp _ _ ⟨_, .binOp _ _ _ _ _, _, _, _, _⟩ _ _ _; first | refine Av hG Y Y Y Y Y (by omega) ?_ | refine Aw hG Y Y Y Y Y (by omega) ?_ | (refine Au hG Y Y Y Y Y (fun h => ?_) (fun h => ?_)))
      | (show AOp _ _ ⟨_, .load _ _, _, _, _, _⟩ _ _ _; first | refine Bk hG Y Y Y ?_ | refine A9 0 hG Y Y Y Y ?_)
      | (show AOp _ _ ⟨_, .indexAddr _ _ _, _, _, _, _⟩ _ _ _; first | refine Bj hG Y Y Y Y Y Y Y (by omega) ?_ | refine Bi hG Y Y Y Y Y Y Y (by omega) ?_ | refine Bw hG Y Y ?_)
      | (show AOp _ _ ⟨_, .convert _ _ _, _, _, _, _⟩ _ _ _; first | refine r_cv16 hG Y Y Y Y Y Y ?_ | refine r_cv_u64 hG Y Y Y Y Y (by omega) ?_ | refine B0 hG Y Y Y Y Y ?_)
      | (show AOp _ _ ⟨_, .call ⟨.value _, _, _⟩, _, _, _, _⟩ _ _ _; first | (refine r_owns Y Y Y Y Y (by apply num_Put <;> (first | assumption | omega | exact Ac _ _ | exact Ae _ | exact Ag _ _ | exact Ap _ | rfl | (simp; omega))) (fun k => ?_)) | (have := kk; clear this; refine Bc Y Y Y Y Y (Owns.pure (by apply num_Put <;> (first | assumption | omega | exact Ac _ _ | exact Ae _ | exact Ag _ _ | exact Ap _ | rfl | (simp; omega)))) ?_) | fail)
      | refine r_q hG Y Y Y ?_))
    | (show AL _ _ _ _ _ _ _ _; first | refine Bn Y Y Y ?_ | (refine As ?_; first | show AW _ _ _ _ _ _ | show ∃ x', _ < _ ∧ _)) | (show AW _ _ (.seq _ _) _ _ _; refine Ah ?_; intro Q1) | (show AW _ _ (.region _ _ false) _ _ _; refine Ad ?_; intro O1) | (show AW _ _ (.cond _ _ _) _ _ _; first | refine Aj Y ?_ | refine Ai Y ?_) | (show AW _ _ (.skip) _ _ _; refine Am ?_; first | show AW _ _ _ _ _ _ | show ∃ x', _ < _ ∧ _) | (show AW _ _ (.block _ _) _ _ _; refine Ba ?_; intro Q1) | (show AW _ _ (.exit _) _ _ _; refine B4 ?_; first | show AW _ _ _ _ _ _ | show ∃ x', _ < _ ∧ _) | (show AW _ _ (.ret) _ _ _; refine Ar ?_; try dsimp only [Al, Aa, Ak, Ab]) | fail)
    refine ⟨⟨i + 1, _, by omega⟩, by dsimp only; omega, ?_, drop_tok⟩
    exact .cons rfl (.cons rfl (.consW rfl (.int (by simp)) (.consW rfl (.eq (by rw [hft]; simp)) (.nil _))))
  · obtain rfl : i = a.length := by omega
    repeat' (first
    | ((show AL _ _ _ _ _ _ _ _; refine Af Y ?_); (first
      | (show AOp _ _ ⟨_, .move _, _, _, _, _⟩ _ _ _; refine Aq hG Y Y ?_)
      | (show AOp _ _ ⟨_, .assign _, _, _, _, _⟩ _ _ _; refine A7 hG Y Y ?_)
      | (show AOp _ _ ⟨_, .call ⟨.builtin .len, _, _⟩, _, _, _, _⟩ _ _ _; first | refine Ay hG Y Y Y Y ?_ | refine Bf hG Y Y Y Y Y ?_)
      | (show AOp _ _ ⟨_, .binOp .add _ _ _ _, _, _, _, _⟩ _ _ _; first | refine Az hG Y Y Y Y Y (by omega) ?_)
      | (show AOp _ _ ⟨_, .binOp _ _ _ _ _, _, _, _, _⟩ _ _ _; first | refine Av hG Y Y Y Y Y (by omega) ?_ | refine Aw hG Y Y Y Y Y (by omega) ?_ | (refine Au hG Y Y Y Y Y (fun h => ?_) (fun h => ?_)))
      | (show AOp _ _ ⟨_, .load _ _, _, _, _, _⟩ _ _ _; first | refine Bk hG Y Y Y ?_ | refine A9 0 hG Y Y Y Y ?_)
      | (show AOp _ _ ⟨_, .indexAddr _ _ _, _, _, _, _⟩ _ _ _; first | refine Bj hG Y Y Y Y Y Y Y (by omega) ?_ | refine Bi hG Y Y Y Y Y Y Y (by omega) ?_ | refine Bw hG Y Y ?_)
      | (show AOp _ _ ⟨_, .convert _ _ _, _, _, _, _⟩ _ _ _; first | refine r_cv16 hG Y Y Y Y Y Y ?_ | refine r_cv_u64 hG Y Y Y Y Y (by omega) ?_ | refine B0 hG Y Y Y Y Y ?_)
      | refine r_q hG Y Y Y ?_))
    | (show AL _ _ _ _ _ _ _ _; first | refine Bn Y Y Y ?_ | (refine As ?_; first | show AW _ _ _ _ _ _ | show ∃ x', _ < _ ∧ _)) | (show AW _ _ (.seq _ _) _ _ _; refine Ah ?_; intro Q1) | (show AW _ _ (.region _ _ false) _ _ _; refine Ad ?_; intro O1) | (show AW _ _ (.cond _ _ _) _ _ _; first | refine Aj Y ?_ | refine Ai Y ?_) | (show AW _ _ (.skip) _ _ _; refine Am ?_; first | show AW _ _ _ _ _ _ | show ∃ x', _ < _ ∧ _) | (show AW _ _ (.block _ _) _ _ _; refine Ba ?_; intro Q1) | (show AW _ _ (.exit _) _ _ _; refine B4 ?_; first | show AW _ _ _ _ _ _ | show ∃ x', _ < _ ∧ _) | (show AW _ _ (.ret) _ _ _; refine Ar ?_; try dsimp only [Al, Aa, Ak, Ab]) | fail)
    exact ret_owns 0 (Ao rfl A8) rfl (by rw [putC, List.take_length]) rfl

def Bt (b : List UInt8) : List UInt16 × Nat × Int :=
  if b.length < 1 then ([], 0, 3)
  else if b.length < 1 + 2 * beV (b.take 1) then ([], 0, 3)
  else if mayC ((List.range (beV (b.take 1))).map fun i => UInt16.ofNat (beV ((b.drop (1 + 2 * i)).take 2))) then
    ((List.range (beV (b.take 1))).map fun i => UInt16.ofNat (beV ((b.drop (1 + 2 * i)).take 2)), 1 + 2 * beV (b.take 1), 0)
  else ([], 0, 2)
def tcT (r : List UInt16 × Nat × Int) : T := .tup [cT r.1, .int .i64 r.2.1, .int .i64 r.2.2]
theorem takeE1 (b : List UInt8) : takeE b 1 = if b.length < 1 then (0, 3) else (beV (b.take 1), 0) := by
  unfold takeE
  rw [if_neg (by omega)]
  by_cases h : b.length < 1
  · rw [if_pos (by omega), if_pos h]
  · rw [if_neg (by omega), if_neg h]; rfl
theorem beV1 (b : List UInt8) (h : 1 ≤ b.length) : beV (b.take 1) < 256 := by have := beV_lt 1 (b.take 1) (by simp; omega); simpa using this
theorem hT_of (v : Nat) (h : v < 65536) : T.int .u16 (v : Int) = hT (UInt16.ofNat v) := by
  unfold hT; congr 1
  simp [UInt16.toNat_ofNat']; omega
structure TCX (n : Nat) where
  i : Nat
  k : Nat
  hi : i ≤ n
theorem cats_Take {x : T} {b : List UInt8} (hx : bytesT x = some b) (hl : b.length ≤ 4294967296) : Pure Try.prog 21 [x] (tcT (Bt b)) := by
  refine Pure.weak (us := [sT b]) ?_ (wk1 (bytesT_wk hx))
  intro off
  refine Bv (N := 50) (rs := [.tmp 2, .tmp 3, .tmp 4]) hG Try.func21 rfl rfl rfl rfl rfl ?_
  have hT1 := takeE1 b
  by_cases h1 : b.length < 1
  · rw [if_pos h1] at hT1
    have hr : Bt b = ([], 0, 3) := by rw [Bt, if_pos h1]
    have hc := num_Take_is (Ae b) hT1
    rw [hr]
    repeat' (first
    | ((show AL _ _ _ _ _ _ _ _; refine Af Y ?_); (first
      | (show AOp _ _ ⟨_, .move _, _, _, _, _⟩ _ _ _; refine Aq hG Y Y ?_)
      | (show AOp _ _ ⟨_, .assign _, _, _, _, _⟩ _ _ _; refine A7 hG Y Y ?_)
      | (show AOp _ _ ⟨_, .call ⟨.builtin .len, _, _⟩, _, _, _, _⟩ _ _ _; first | refine Ay hG Y Y Y Y ?_ | refine Bf hG Y Y Y Y Y ?_)
      | (show AOp _ _ ⟨_, .binOp .add _ _ _ _, _, _, _, _⟩ _ _ _; first | refine Az hG Y Y Y Y Y (by omega) ?_)
      | (show AOp _ _ ⟨_, .binOp .mul _ _ _ _, _, _, _, _⟩ _ _ _; first | refine Az hG Y Y Y Y Y (by omega) ?_)
      | (show AOp _ _ ⟨_, .binOp _ _ _ _ _, _, _, _, _⟩ _ _ _; first | refine Av hG Y Y Y Y Y (by omega) ?_ | refine Aw hG Y Y Y Y Y (by omega) ?_ | (refine Au hG Y Y Y Y Y (fun h => ?_) (fun h => ?_)))
      | (show AOp _ _ ⟨_, .convert _ _ _, _, _, _, _⟩ _ _ _; first | refine Bp hG Y Y Y Y Y (by omega) ?_ | refine r_cv_u16 hG Y Y Y Y Y (by omega) ?_ | refine B0 hG Y Y Y Y Y ?_)
      | (show AOp _ _ ⟨_, .slice _ _ _ _ _, _, _, _, _⟩ _ _ _; first | refine Bb hG Y Y Y Y Y Y Y (by omega) ?_ | refine Bh hG Y Y Y Y Y Y Y (by omega) ?_ | refine r_sl hG Y Y ?_)
      | (show AOp _ _ ⟨_, .unOp _ _ _, _, _, _, _⟩ _ _ _; refine B8 hG Y Y Y ?_)
      | (show AOp _ _ ⟨_, .buildSlice _ _ _, _, _, _, _⟩ _ _ _; first | refine r_mk (sz := 1) hG Y Y Y Y Y Y Y ?_)
      | (show AOp _ _ ⟨_, .call ⟨.builtin .append, _, _⟩, _, _, _, _⟩ _ _ _; first | refine Bz (sz := 1) (xs := []) hG Y Y Y Y Y Y Y ⟨_, Y⟩ Y Y Y Y Y Y Y (by first | omega | (simp; omega)) (fun k => ?_) | refine B3 0 hG Y Y Y Y Y Y Y ⟨_, Y⟩ Y Y Y Y Y (by first | omega | (simp only [List.length_append, List.length_cons, List.length_nil]; omega)) (fun k => ?_) | fail)
      | (show AOp _ _ ⟨_, .call ⟨.value _, _, _⟩, _, _, _, _⟩ _ _ _; first | refine Bc Y Y Y Y Y (by apply hc <;> (first | assumption | omega | exact Ac _ _ | exact Ae _ | exact Ag _ _ | exact Ap _ | rfl | (simp; omega))) ?_ | fail)
      | refine r_q hG Y Y Y ?_))
    | (show AL _ _ _ _ _ _ _ _; first | refine Bn Y Y Y ?_ | (refine As ?_; first | show AW _ _ _ _ _ _ | show ∃ x', _ < _ ∧ _)) | (show AW _ _ (.seq _ _) _ _ _; refine Ah ?_; intro Q1) | (show AW _ _ (.region _ _ false) _ _ _; refine Ad ?_; intro O1) | (show AW _ _ (.cond _ _ _) _ _ _; first | refine Aj Y ?_ | refine Ai Y ?_) | (show AW _ _ (.skip) _ _ _; refine Am ?_; first | show AW _ _ _ _ _ _ | show ∃ x', _ < _ ∧ _) | (show AW _ _ (.block _ _) _ _ _; refine Ba ?_; intro Q1) | (show AW _ _ (.exit _) _ _ _; refine B4 ?_; first | show AW _ _ _ _ _ _ | show ∃ x', _ < _ ∧ _) | (show AW _ _ (.ret) _ _ _; refine Ar ?_; try dsimp only [Al, Aa, Ak, Ab]) | fail)
    exact Be (Ao rfl (Ao rfl (Ao rfl A8))) (Wk.tupL (wk3 (.nil 1) (.refl _) (.refl _))) rfl
  rw [if_neg h1] at hT1
  have hv := beV1 b (by omega)
  have hc := num_Take_is (Ae b) hT1
  generalize hn : beV (b.take 1) = n at *
  by_cases h2 : b.length < 1 + 2 * n
  · have hr : Bt b = ([], 0, 3) := by rw [Bt, if_neg h1, hn, if_pos h2]
    rw [hr]
    repeat' (first
    | ((show AL _ _ _ _ _ _ _ _; refine Af Y ?_); (first
      | (show AOp _ _ ⟨_, .move _, _, _, _, _⟩ _ _ _; refine Aq hG Y Y ?_)
      | (show AOp _ _ ⟨_, .assign _, _, _, _, _⟩ _ _ _; refine A7 hG Y Y ?_)
      | (show AOp _ _ ⟨_, .call ⟨.builtin .len, _, _⟩, _, _, _, _⟩ _ _ _; first | refine Ay hG Y Y Y Y ?_ | refine Bf hG Y Y Y Y Y ?_)
      | (show AOp _ _ ⟨_, .binOp .add _ _ _ _, _, _, _, _⟩ _ _ _; first | refine Az hG Y Y Y Y Y (by omega) ?_)
      | (show AOp _ _ ⟨_, .binOp .mul _ _ _ _, _, _, _, _⟩ _ _ _; first | refine Az hG Y Y Y Y Y (by omega) ?_)
      | (show AOp _ _ ⟨_, .binOp _ _ _ _ _, _, _, _, _⟩ _ _ _; first | refine Av hG Y Y Y Y Y (by omega) ?_ | refine Aw hG Y Y Y Y Y (by omega) ?_ | (refine Au hG Y Y Y Y Y (fun h => ?_) (fun h => ?_)))
      | (show AOp _ _ ⟨_, .convert _ _ _, _, _, _, _⟩ _ _ _; first | refine Bp hG Y Y Y Y Y (by omega) ?_ | refine r_cv_u16 hG Y Y Y Y Y (by omega) ?_ | refine B0 hG Y Y Y Y Y ?_)
      | (show AOp _ _ ⟨_, .slice _ _ _ _ _, _, _, _, _⟩ _ _ _; first | refine Bb hG Y Y Y Y Y Y Y (by omega) ?_ | refine Bh hG Y Y Y Y Y Y Y (by omega) ?_ | refine r_sl hG Y Y ?_)
      | (show AOp _ _ ⟨_, .unOp _ _ _, _, _, _, _⟩ _ _ _; refine B8 hG Y Y Y ?_)
      | (show AOp _ _ ⟨_, .buildSlice _ _ _, _, _, _, _⟩ _ _ _; first | refine r_mk (sz := 1) hG Y Y Y Y Y Y Y ?_)
      | (show AOp _ _ ⟨_, .call ⟨.builtin .append, _, _⟩, _, _, _, _⟩ _ _ _; first | refine Bz (sz := 1) (xs := []) hG Y Y Y Y Y Y Y ⟨_, Y⟩ Y Y Y Y Y Y Y (by first | omega | (simp; omega)) (fun k => ?_) | refine B3 0 hG Y Y Y Y Y Y Y ⟨_, Y⟩ Y Y Y Y Y (by first | omega | (simp only [List.length_append, List.length_cons, List.length_nil]; omega)) (fun k => ?_) | fail)
      | (show AOp _ _ ⟨_, .call ⟨.value _, _, _⟩, _, _, _, _⟩ _ _ _; first | refine Bc Y Y Y Y Y (by apply hc <;> (first | assumption | omega | exact Ac _ _ | exact Ae _ | exact Ag _ _ | exact Ap _ | rfl | (simp; omega))) ?_ | fail)
      | refine r_q hG Y Y Y ?_))
    | (show AL _ _ _ _ _ _ _ _; first | refine Bn Y Y Y ?_ | (refine As ?_; first | show AW _ _ _ _ _ _ | show ∃ x', _ < _ ∧ _)) | (show AW _ _ (.seq _ _) _ _ _; refine Ah ?_; intro Q1) | (show AW _ _ (.region _ _ false) _ _ _; refine Ad ?_; intro O1) | (show AW _ _ (.cond _ _ _) _ _ _; first | refine Aj Y ?_ | refine Ai Y ?_) | (show AW _ _ (.skip) _ _ _; refine Am ?_; first | show AW _ _ _ _ _ _ | show ∃ x', _ < _ ∧ _) | (show AW _ _ (.block _ _) _ _ _; refine Ba ?_; intro Q1) | (show AW _ _ (.exit _) _ _ _; refine B4 ?_; first | show AW _ _ _ _ _ _ | show ∃ x', _ < _ ∧ _) | (show AW _ _ (.ret) _ _ _; refine Ar ?_; try dsimp only [Al, Aa, Ak, Ab]) | fail)
    exact Be (Ao rfl (Ao rfl (Ao rfl A8))) (Wk.tupL (wk3 (.nil 1) (.refl _) (.refl _))) rfl
  generalize hg : (fun i => UInt16.ofNat (beV ((b.drop (1 + 2 * i)).take 2))) = g
  have hr : Bt b = if mayC ((List.range n).map g) then ((List.range n).map g, 1 + 2 * n, 0) else ([], 0, 2) := by rw [Bt, if_neg h1, hn, if_neg h2, hg]
  rw [hr]
  repeat' (first
    | ((show AL _ _ _ _ _ _ _ _; refine Af Y ?_); (first
      | (show AOp _ _ ⟨_, .move _, _, _, _, _⟩ _ _ _; refine Aq hG Y Y ?_)
      | (show AOp _ _ ⟨_, .assign _, _, _, _, _⟩ _ _ _; refine A7 hG Y Y ?_)
      | (show AOp _ _ ⟨_, .call ⟨.builtin .len, _, _⟩, _, _, _, _⟩ _ _ _; first | refine Ay hG Y Y Y Y ?_ | refine Bf hG Y Y Y Y Y ?_)
      | (show AOp _ _ ⟨_, .binOp .add _ _ _ _, _, _, _, _⟩ _ _ _; first | refine Az hG Y Y Y Y Y (by omega) ?_)
      | (show AOp _ _ ⟨_, .binOp .mul _ _ _ _, _, _, _, _⟩ _ _ _; first | refine Az hG Y Y Y Y Y (by omega) ?_)
      | (show AOp _ _ ⟨_, .binOp _ _ _ _ _, _, _, _, _⟩ _ _ _; first | refine Av hG Y Y Y Y Y (by omega) ?_ | refine Aw hG Y Y Y Y Y (by omega) ?_ | (refine Au hG Y Y Y Y Y (fun h => ?_) (fun h => ?_)))
      | (show AOp _ _ ⟨_, .convert _ _ _, _, _, _, _⟩ _ _ _; first | refine Bp hG Y Y Y Y Y (by omega) ?_ | refine r_cv_u16 hG Y Y Y Y Y (by omega) ?_ | refine B0 hG Y Y Y Y Y ?_)
      | (show AOp _ _ ⟨_, .slice _ _ _ _ _, _, _, _, _⟩ _ _ _; first | refine Bb hG Y Y Y Y Y Y Y (by omega) ?_ | refine Bh hG Y Y Y Y Y Y Y (by omega) ?_ | refine r_sl hG Y Y ?_)
      | (show AOp _ _ ⟨_, .unOp _ _ _, _, _, _, _⟩ _ _ _; refine B8 hG Y Y Y ?_)
      | (show AOp _ _ ⟨_, .buildSlice _ _ _, _, _, _, _⟩ _ _ _; first | refine r_mk (sz := 1) hG Y Y Y Y Y Y Y ?_)
      | (show AOp _ _ ⟨_, .call ⟨.builtin .append, _, _⟩, _, _, _, _⟩ _ _ _; first | refine Bz (sz := 1) (xs := []) hG Y Y Y Y Y Y Y ⟨_, Y⟩ Y Y Y Y Y Y Y (by first | omega | (simp; omega)) (fun k => ?_) | refine B3 0 hG Y Y Y Y Y Y Y ⟨_, Y⟩ Y Y Y Y Y (by first | omega | (simp only [List.length_append, List.length_cons, List.length_nil]; omega)) (fun k => ?_) | fail)
      | (show AOp _ _ ⟨_, .call ⟨.value _, _, _⟩, _, _, _, _⟩ _ _ _; first | refine Bc Y Y Y Y Y (by apply hc <;> (first | assumption | omega | exact Ac _ _ | exact Ae _ | exact Ag _ _ | exact Ap _ | rfl | (simp; omega))) ?_ | fail)
      | refine r_q hG Y Y Y ?_))
    | (show AL _ _ _ _ _ _ _ _; first | refine Bn Y Y Y ?_ | (refine As ?_; first | show AW _ _ _ _ _ _ | show ∃ x', _ < _ ∧ _)) | (show AW _ _ (.seq _ _) _ _ _; refine Ah ?_; intro Q1) | (show AW _ _ (.region _ _ false) _ _ _; refine Ad ?_; intro O1) | (show AW _ _ (.cond _ _ _) _ _ _; first | refine Aj Y ?_ | refine Ai Y ?_) | (show AW _ _ (.skip) _ _ _; refine Am ?_; first | show AW _ _ _ _ _ _ | show ∃ x', _ < _ ∧ _) | (show AW _ _ (.block _ _) _ _ _; refine Ba ?_; intro Q1) | (show AW _ _ (.exit _) _ _ _; refine B4 ?_; first | show AW _ _ _ _ _ _ | show ∃ x', _ < _ ∧ _) | (show AW _ _ (.ret) _ _ _; refine Ar ?_; try dsimp only [Al, Aa, Ak, Ab]) | fail)
  refine aw_tok0 2 1 rfl rfl rfl rfl (fun k => ?_)
  refine aw_loop (X := TCX n) (fun x => [(0, sT b), (3, .int .i64 (1 + 2 * (n : Int))), (26, .int .i64 n), (27, .int .i64 x.i), (2, .sl 1 (.tok x.k) (((List.range x.i).map g).map hT))]) (fun x => ⟨[], [x.k], off, none⟩) (fun x => n - x.i) ⟨0, k, Nat.zero_le _⟩ ?_ (.refl _) ?_
  · exact .cons rfl (.cons rfl (.cons rfl (.consW rfl (.int rfl) (.consW rfl (.eq (by simp)) (.nil _)))))
  rintro ⟨i, k, hi⟩
  dsimp only
  have hrl : (List.range i).length = i := List.length_range
  by_cases hib : i < n
  · have e : ((1 : Int) + 2 * (i : Int)).toNat = 1 + 2 * i := by omega
    have hd : (b.drop ((1 : Int) + 2 * (i : Int)).toNat).length = b.length - (1 + 2 * i) := by rw [List.length_drop, e]
    have hc2 := takeE2 (b.drop ((1 : Int) + 2 * (i : Int)).toNat)
    rw [if_neg (by omega)] at hc2
    have hc3 := num_Take_is (Ae _) hc2
    have hw := beV2 (b.drop ((1 : Int) + 2 * (i : Int)).toNat) (by omega)
    have hgi : UInt16.ofNat (beV ((b.drop ((1 : Int) + 2 * (i : Int)).toNat).take 2)) = g i := by rw [← hg, e]
    generalize beV ((b.drop ((1 : Int) + 2 * (i : Int)).toNat).take 2) = v at *
    have ht := hT_of v hw
    rw [hgi] at ht
    repeat' (first
    | ((show AL _ _ _ _ _ _ _ _; refine Af Y ?_); (first
      | (show AOp _ _ ⟨_, .move _, _, _, _, _⟩ _ _ _; refine Aq hG Y Y ?_)
      | (show AOp _ _ ⟨_, .assign _, _, _, _, _⟩ _ _ _; refine A7 hG Y Y ?_)
      | (show AOp _ _ ⟨_, .call ⟨.builtin .len, _, _⟩, _, _, _, _⟩ _ _ _; first | refine Ay hG Y Y Y Y ?_ | refine Bf hG Y Y Y Y Y ?_)
      | (show AOp _ _ ⟨_, .binOp .add _ _ _ _, _, _, _, _⟩ _ _ _; first | refine Az hG Y Y Y Y Y (by omega) ?_)
      | (show AOp _ _ ⟨_, .binOp .mul _ _ _ _, _, _, _, _⟩ _ _ _; first | refine Az hG Y Y Y Y Y (by omega) ?_)
      | (show AOp _ _ ⟨_, .binOp _ _ _ _ _, _, _, _, _⟩ _ _ _; first | refine Av hG Y Y Y Y Y (by omega) ?_ | refine Aw hG Y Y Y Y Y (by omega) ?_ | (refine Au hG Y Y Y Y Y (fun h => ?_) (fun h => ?_)))
      | (show AOp _ _ ⟨_, .convert _ _ _, _, _, _, _⟩ _ _ _; first | refine Bp hG Y Y Y Y Y (by omega) ?_ | refine r_cv_u16 hG Y Y Y Y Y (by omega) ?_ | refine B0 hG Y Y Y Y Y ?_)
      | (show AOp _ _ ⟨_, .slice _ _ _ _ _, _, _, _, _⟩ _ _ _; first | refine Bb hG Y Y Y Y Y Y Y (by omega) ?_ | refine Bh hG Y Y Y Y Y Y Y (by omega) ?_ | refine r_sl hG Y Y ?_)
      | (show AOp _ _ ⟨_, .unOp _ _ _, _, _, _, _⟩ _ _ _; refine B8 hG Y Y Y ?_)
      | (show AOp _ _ ⟨_, .buildSlice _ _ _, _, _, _, _⟩ _ _ _; first | refine r_mk (sz := 1) hG Y Y Y Y Y Y Y ?_)
      | (show AOp _ _ ⟨_, .call ⟨.builtin .append, _, _⟩, _, _, _, _⟩ _ _ _; first | refine Bz (sz := 1) (xs := []) hG Y Y Y Y Y Y Y ⟨_, Y⟩ Y Y Y Y Y Y Y (by first | omega | (simp; omega)) (fun k => ?_) | refine B3 0 hG Y Y Y Y Y Y Y ⟨_, Y⟩ Y Y Y Y Y (by first | omega | (simp only [List.length_append, List.length_cons, List.length_nil]; omega)) (fun k => ?_) | fail)
      | (show AOp _ _ ⟨_, .call ⟨.value _, _, _⟩, _, _, _, _⟩ _ _ _; first | refine Bc Y Y Y Y Y (by apply hc3 <;> (first | assumption | omega | exact Ac _ _ | exact Ae _ | exact Ag _ _ | exact Ap _ | rfl | (simp; omega))) ?_ | fail)
      | refine r_q hG Y Y Y ?_))
    | (show AL _ _ _ _ _ _ _ _; first | refine Bn Y Y Y ?_ | (refine As ?_; first | show AW _ _ _ _ _ _ | show ∃ x', _ < _ ∧ _)) | (show AW _ _ (.seq _ _) _ _ _; refine Ah ?_; intro Q1) | (show AW _ _ (.region _ _ false) _ _ _; refine Ad ?_; intro O1) | (show AW _ _ (.cond _ _ _) _ _ _; first | refine Aj Y ?_ | refine Ai Y ?_) | (show AW _ _ (.skip) _ _ _; refine Am ?_; first | show AW _ _ _ _ _ _ | show ∃ x', _ < _ ∧ _) | (show AW _ _ (.block _ _) _ _ _; refine Ba ?_; intro Q1) | (show AW _ _ (.exit _) _ _ _; refine B4 ?_; first | show AW _ _ _ _ _ _ | show ∃ x', _ < _ ∧ _) | (show AW _ _ (.ret) _ _ _; refine Ar ?_; try dsimp only [Al, Aa, Ak, Ab]) | fail)
    refine Af rfl (B3 0 (ys := [g i]) hG rfl rfl rfl rfl rfl rfl rfl ⟨_, rfl⟩ rfl rfl rfl rfl (congrArg (fun t => [t]) ht) (by simp; omega) (fun k' => ?_))
    repeat' (first
    | ((show AL _ _ _ _ _ _ _ _; refine Af Y ?_); (first
      | (show AOp _ _ ⟨_, .move _, _, _, _, _⟩ _ _ _; refine Aq hG Y Y ?_)
      | (show AOp _ _ ⟨_, .assign _, _, _, _, _⟩ _ _ _; refine A7 hG Y Y ?_)
      | (show AOp _ _ ⟨_, .call ⟨.builtin .len, _, _⟩, _, _, _, _⟩ _ _ _; first | refine Ay hG Y Y Y Y ?_ | refine Bf hG Y Y Y Y Y ?_)
      | (show AOp _ _ ⟨_, .binOp .add _ _ _ _, _, _, _, _⟩ _ _ _; first | refine Az hG Y Y Y Y Y (by omega) ?_)
      | (show AOp _ _ ⟨_, .binOp .mul _ _ _ _, _, _, _, _⟩ _ _ _; first | refine Az hG Y Y Y Y Y (by omega) ?_)
      | (show AOp _ _ ⟨_, .binOp _ _ _ _ _, _, _, _, _⟩ _ _ _; first | refine Av hG Y Y Y Y Y (by omega) ?_ | refine Aw hG Y Y Y Y Y (by omega) ?_ | (refine Au hG Y Y Y Y Y (fun h => ?_) (fun h => ?_)))
      | (show AOp _ _ ⟨_, .convert _ _ _, _, _, _, _⟩ _ _ _; first | refine Bp hG Y Y Y Y Y (by omega) ?_ | refine r_cv_u16 hG Y Y Y Y Y (by omega) ?_ | refine B0 hG Y Y Y Y Y ?_)
      | (show AOp _ _ ⟨_, .slice _ _ _ _ _, _, _, _, _⟩ _ _ _; first | refine Bb hG Y Y Y Y Y Y Y (by omega) ?_ | refine Bh hG Y Y Y Y Y Y Y (by omega) ?_ | refine r_sl hG Y Y ?_)
      | (show AOp _ _ ⟨_, .unOp _ _ _, _, _, _, _⟩ _ _ _; refine B8 hG Y Y Y ?_)
      | (show AOp _ _ ⟨_, .buildSlice _ _ _, _, _, _, _⟩ _ _ _; first | refine r_mk (sz := 1) hG Y Y Y Y Y Y Y ?_)
      | (show AOp _ _ ⟨_, .call ⟨.builtin .append, _, _⟩, _, _, _, _⟩ _ _ _; first | refine Bz (sz := 1) (xs := []) hG Y Y Y Y Y Y Y ⟨_, Y⟩ Y Y Y Y Y Y Y (by first | omega | (simp; omega)) (fun k => ?_) | refine B3 0 hG Y Y Y Y Y Y Y ⟨_, Y⟩ Y Y Y Y Y (by first | omega | (simp only [List.length_append, List.length_cons, List.length_nil]; omega)) (fun k => ?_) | fail)
      | refine r_q hG Y Y Y ?_))
    | (show AL _ _ _ _ _ _ _ _; first | refine Bn Y Y Y ?_ | (refine As ?_; first | show AW _ _ _ _ _ _ | show ∃ x', _ < _ ∧ _)) | (show AW _ _ (.seq _ _) _ _ _; refine Ah ?_; intro Q1) | (show AW _ _ (.region _ _ false) _ _ _; refine Ad ?_; intro O1) | (show AW _ _ (.cond _ _ _) _ _ _; first | refine Aj Y ?_ | refine Ai Y ?_) | (show AW _ _ (.skip) _ _ _; refine Am ?_; first | show AW _ _ _ _ _ _ | show ∃ x', _ < _ ∧ _) | (show AW _ _ (.block _ _) _ _ _; refine Ba ?_; intro Q1) | (show AW _ _ (.exit _) _ _ _; refine B4 ?_; first | show AW _ _ _ _ _ _ | show ∃ x', _ < _ ∧ _) | (show AW _ _ (.ret) _ _ _; refine Ar ?_; try dsimp only [Al, Aa, Ak, Ab]) | fail)
    refine ⟨⟨i + 1, k', by omega⟩, by dsimp only; omega, ?_, .refl _⟩
    exact .cons rfl (.cons rfl (.cons rfl (.consW rfl (.int (by simp)) (.consW rfl (.eq (by rw [List.range_succ]; simp)) (.nil _)))))
  · obtain rfl : i = n := by omega
    have hm := cats_May (x := .sl 1 (.tok k) (((List.range i).map g).map hT)) (Ag _ _) (by simp; omega)
    cases hma : mayC ((List.range i).map g) <;> rw [hma] at hm
    · repeat' (first
    | ((show AL _ _ _ _ _ _ _ _; refine Af Y ?_); (first
      | (show AOp _ _ ⟨_, .move _, _, _, _, _⟩ _ _ _; refine Aq hG Y Y ?_)
      | (show AOp _ _ ⟨_, .assign _, _, _, _, _⟩ _ _ _; refine A7 hG Y Y ?_)
      | (show AOp _ _ ⟨_, .call ⟨.builtin .len, _, _⟩, _, _, _, _⟩ _ _ _; first | refine Ay hG Y Y Y Y ?_ | refine Bf hG Y Y Y Y Y ?_)
      | (show AOp _ _ ⟨_, .binOp .add _ _ _ _, _, _, _, _⟩ _ _ _; first | refine Az hG Y Y Y Y Y (by omega) ?_)
      | (show AOp _ _ ⟨_, .binOp .mul _ _ _ _, _, _, _, _⟩ _ _ _; first | refine Az hG Y Y Y Y Y (by omega) ?_)
      | (show AOp _ _ ⟨_, .binOp _ _ _ _ _, _, _, _, _⟩ _ _ _; first | refine Av hG Y Y Y Y Y (by omega) ?_ | refine Aw hG Y Y Y Y Y (by omega) ?_ | (refine Au hG Y Y Y Y Y (fun h => ?_) (fun h => ?_)))
      | (show AOp _ _ ⟨_, .convert _ _ _, _, _, _, _⟩ _ _ _; first | refine Bp hG Y Y Y Y Y (by omega) ?_ | refine r_cv_u16 hG Y Y Y Y Y (by omega) ?_ | refine B0 hG Y Y Y Y Y ?_)
      | (show AOp _ _ ⟨_, .slice _ _ _ _ _, _, _, _, _⟩ _ _ _; first | refine Bb hG Y Y Y Y Y Y Y (by omega) ?_ | refine Bh hG Y Y Y Y Y Y Y (by omega) ?_ | refine r_sl hG Y Y ?_)
      | (show AOp _ _ ⟨_, .unOp _ _ _, _, _, _, _⟩ _ _ _; refine B8 hG Y Y Y ?_)
      | (show AOp _ _ ⟨_, .buildSlice _ _ _, _, _, _, _⟩ _ _ _; first | refine r_mk (sz := 1) hG Y Y Y Y Y Y Y ?_)
      | (show AOp _ _ ⟨_, .call ⟨.builtin .append, _, _⟩, _, _, _, _⟩ _ _ _; first | refine Bz (sz := 1) (xs := []) hG Y Y Y Y Y Y Y ⟨_, Y⟩ Y Y Y Y Y Y Y (by first | omega | (simp; omega)) (fun k => ?_) | refine B3 0 hG Y Y Y Y Y Y Y ⟨_, Y⟩ Y Y Y Y Y (by first | omega | (simp only [List.length_append, List.length_cons, List.length_nil]; omega)) (fun k => ?_) | fail)
      | (show AOp _ _ ⟨_, .call ⟨.value _, _, _⟩, _, _, _, _⟩ _ _ _; first | refine Bc Y Y Y Y Y (by apply hm <;> (first | assumption | omega | exact Ac _ _ | exact Ae _ | exact Ag _ _ | exact Ap _ | rfl | (simp; omega))) ?_ | fail)
      | refine r_q hG Y Y Y ?_))
    | (show AL _ _ _ _ _ _ _ _; first | refine Bn Y Y Y ?_ | (refine As ?_; first | show AW _ _ _ _ _ _ | show ∃ x', _ < _ ∧ _)) | (show AW _ _ (.seq _ _) _ _ _; refine Ah ?_; intro Q1) | (show AW _ _ (.region _ _ false) _ _ _; refine Ad ?_; intro O1) | (show AW _ _ (.cond _ _ _) _ _ _; first | refine Aj Y ?_ | refine Ai Y ?_) | (show AW _ _ (.skip) _ _ _; refine Am ?_; first | show AW _ _ _ _ _ _ | show ∃ x', _ < _ ∧ _) | (show AW _ _ (.block _ _) _ _ _; refine Ba ?_; intro Q1) | (show AW _ _ (.exit _) _ _ _; refine B4 ?_; first | show AW _ _ _ _ _ _ | show ∃ x', _ < _ ∧ _) | (show AW _ _ (.ret) _ _ _; refine Ar ?_; try dsimp only [Al, Aa, Ak, Ab]) | fail)
      refine Be (Ao rfl (Ao rfl (Ao rfl A8))) ?_ rfl
      rw [hma]
      exact Wk.tupL (wk3 (.nil 1) (.refl _) (.refl _))
    · repeat' (first
    | ((show AL _ _ _ _ _ _ _ _; refine Af Y ?_); (first
      | (show AOp _ _ ⟨_, .move _, _, _, _, _⟩ _ _ _; refine Aq hG Y Y ?_)
      | (show AOp _ _ ⟨_, .assign _, _, _, _, _⟩ _ _ _; refine A7 hG Y Y ?_)
      | (show AOp _ _ ⟨_, .call ⟨.builtin .len, _, _⟩, _, _, _, _⟩ _ _ _; first | refine Ay hG Y Y Y Y ?_ | refine Bf hG Y Y Y Y Y ?_)
      | (show AOp _ _ ⟨_, .binOp .add _ _ _ _, _, _, _, _⟩ _ _ _; first | refine Az hG Y Y Y Y Y (by omega) ?_)
      | (show AOp _ _ ⟨_, .binOp .mul _ _ _ _, _, _, _, _⟩ _ _ _; first | refine Az hG Y Y Y Y Y (by omega) ?_)
      | (show AOp _ _ ⟨_, .binOp _ _ _ _ _, _, _, _, _⟩ _ _ _; first | refine Av hG Y Y Y Y Y (by omega) ?_ | refine Aw hG Y Y Y Y Y (by omega) ?_ | (refine Au hG Y Y Y Y Y (fun h => ?_) (fun h => ?_)))
      | (show AOp _ _ ⟨_, .convert _ _ _, _, _, _, _⟩ _ _ _; first | refine Bp hG Y Y Y Y Y (by omega) ?_ | refine r_cv_u16 hG Y Y Y Y Y (by omega) ?_ | refine B0 hG Y Y Y Y Y ?_)
      | (show AOp _ _ ⟨_, .slice _ _ _ _ _, _, _, _, _⟩ _ _ _; first | refine Bb hG Y Y Y Y Y Y Y (by omega) ?_ | refine Bh hG Y Y Y Y Y Y Y (by omega) ?_ | refine r_sl hG Y Y ?_)
      | (show AOp _ _ ⟨_, .unOp _ _ _, _, _, _, _⟩ _ _ _; refine B8 hG Y Y Y ?_)
      | (show AOp _ _ ⟨_, .buildSlice _ _ _, _, _, _, _⟩ _ _ _; first | refine r_mk (sz := 1) hG Y Y Y Y Y Y Y ?_)
      | (show AOp _ _ ⟨_, .call ⟨.builtin .append, _, _⟩, _, _, _, _⟩ _ _ _; first | refine Bz (sz := 1) (xs := []) hG Y Y Y Y Y Y Y ⟨_, Y⟩ Y Y Y Y Y Y Y (by first | omega | (simp; omega)) (fun k => ?_) | refine B3 0 hG Y Y Y Y Y Y Y ⟨_, Y⟩ Y Y Y Y Y (by first | omega | (simp only [List.length_append, List.length_cons, List.length_nil]; omega)) (fun k => ?_) | fail)
      | (show AOp _ _ ⟨_, .call ⟨.value _, _, _⟩, _, _, _, _⟩ _ _ _; first | refine Bc Y Y Y Y Y (by apply hm <;> (first | assumption | omega | exact Ac _ _ | exact Ae _ | exact Ag _ _ | exact Ap _ | rfl | (simp; omega))) ?_ | fail)
      | refine r_q hG Y Y Y ?_))
    | (show AL _ _ _ _ _ _ _ _; first | refine Bn Y Y Y ?_ | (refine As ?_; first | show AW _ _ _ _ _ _ | show ∃ x', _ < _ ∧ _)) | (show AW _ _ (.seq _ _) _ _ _; refine Ah ?_; intro Q1) | (show AW _ _ (.region _ _ false) _ _ _; refine Ad ?_; intro O1) | (show AW _ _ (.cond _ _ _) _ _ _; first | refine Aj Y ?_ | refine Ai Y ?_) | (show AW _ _ (.skip) _ _ _; refine Am ?_; first | show AW _ _ _ _ _ _ | show ∃ x', _ < _ ∧ _) | (show AW _ _ (.block _ _) _ _ _; refine Ba ?_; intro Q1) | (show AW _ _ (.exit _) _ _ _; refine B4 ?_; first | show AW _ _ _ _ _ _ | show ∃ x', _ < _ ∧ _) | (show AW _ _ (.ret) _ _ _; refine Ar ?_; try dsimp only [Al, Aa, Ak, Ab]) | fail)
      refine Be (Ao rfl (Ao rfl (Ao rfl A8))) ?_ rfl
      rw [hma]
      exact Wk.tupL (wk3 (Wk.own _ _ _) (.int (by simp)) (.refl _))
end Go.Proofs.Ytholeicgmkjadaa
namespace Go.Proofs.Ytholeicgmkjadaa
open Go.Ts
set_option linter.unusedSimpArgs false
attribute [local irreducible] Go.Ts.AW Go.Ts.AOps Go.Ts.AL Go.Ts.AOp Go.Ts.ACalls Go.Ts.DL Go.Ts.DQ Go.Ts.EL
theorem take_snoc {α : Type} [Inhabited α] (l : List α) (i : Nat) (h : i < l.length) : l.take (i + 1) = l.take i ++ [l.getD i default] := by
  rw [List.take_add_one, List.getElem?_eq_getElem h, List.getD_eq_getElem?_getD, List.getElem?_eq_getElem h]; rfl
end Go.Proofs.Ytholeicgmkjadaa
namespace Go.Proofs.Ytholeicgmkjadaa
open Go.Ts
set_option linter.unusedSimpArgs false
set_option linter.unusedVariables false
def mayL (l : List (List UInt8)) : Bool := decide (l.length ≤ 4) && l.all fun b => decide (b.length ≤ 16)
theorem mayL_iff {l : List (List UInt8)} : mayL l = true ↔ l.length ≤ 4 ∧ ∀ b ∈ l, b.length ≤ 16 := by simp [mayL]
def putR (b : List UInt8) (l : List (List UInt8)) : List UInt8 := l.foldl putBs (b ++ putI l.length 1)
def takeLs (b : List UInt8) : Nat → List (List UInt8) → Nat → List (List UInt8) × Nat × Int
  | 0, acc, at' => (acc, at', 0)
  | n + 1, acc, at' => if (takeBE (b.drop at')).2.2 = 0 then takeLs b n (acc ++ [(takeBE (b.drop at')).1]) (at' + (takeBE (b.drop at')).2.1) else ([], 0, 3)
def takeR (b : List UInt8) : List (List UInt8) × Nat × Int :=
  if b.length < 1 then ([], 0, 3)
  else if (takeLs b (beV (b.take 1)) [] 1).2.2 = 0 then (if mayL (takeLs b (beV (b.take 1)) [] 1).1 then takeLs b (beV (b.take 1)) [] 1 else ([], 0, 2)) else ([], 0, 3)
def trT (r : List (List UInt8) × Nat × Int) : T := .tup [lT r.1, .int .i64 r.2.1, .int .i64 r.2.2]
theorem takeBE_e (b : List UInt8) : (takeBE b).2.2 = 0 ∧ 2 ≤ b.length ∧ (takeBE b).2.1 ≤ b.length ∧ (takeBE b).1.length ≤ 65535 ∨ takeBE b = ([], 0, 3) := by
  unfold takeBE
  split
  · exact .inr rfl
  split
  · exact .inr rfl
  · have := beV2 b (by omega)
    refine .inl ⟨rfl, by omega, by simp; omega, ?_⟩
    simp; omega
theorem be1 (n : Nat) (h : n < 256) : putI n 1 = [UInt8.ofNat n] := by
  unfold putI
  rw [if_pos (by omega)]
  simp [be]
theorem be2 (n : Nat) (h : n < 65536) : putI n 2 = [UInt8.ofNat (n / 256), UInt8.ofNat n] := by
  unfold putI
  rw [if_pos (by omega)]
  simp [be]
theorem putBs_len (b s : List UInt8) (h : s.length < 65536) : (putBs b s).length = b.length + 2 + s.length := by
  unfold putBs; rw [be2 _ h]; simp; omega
def lets (l : List (List UInt8)) : List UInt8 := l.flatMap fun s => putI s.length 2 ++ s
theorem fold_put (l : List (List UInt8)) : ∀ b, l.foldl putBs b = b ++ lets l := by
  induction l with
  | nil => intro b; simp [lets]
  | cons s l ih => intro b; rw [List.foldl_cons, ih]; simp [lets, putBs]
theorem lets_cons (s : List UInt8) (l : List (List UInt8)) : lets (s :: l) = putI s.length 2 ++ s ++ lets l := by simp [lets]
theorem lets_len (l : List (List UInt8)) (h : ∀ b ∈ l, b.length ≤ 16) : (lets l).length ≤ 18 * l.length := by
  induction l with
  | nil => simp [lets]
  | cons s l ih =>
    have h1 := h s List.mem_cons_self
    have h2 := ih fun b hb => h b (List.mem_cons_of_mem _ hb)
    rw [lets_cons, be2 _ (by omega)]
    simp only [List.length_append, List.length_cons, List.length_nil]
    omega
theorem putR_eq (b : List UInt8) (l : List (List UInt8)) : putR b l = b ++ putI l.length 1 ++ lets l := fold_put l _
theorem beV_2 (n : Nat) (h : n < 65536) : beV [UInt8.ofNat (n / 256), UInt8.ofNat n] = n := by
  simp [beV]; omega
theorem takeBE_put (s rest : List UInt8) (h : s.length < 65536) : takeBE (putI s.length 2 ++ s ++ rest) = (s, 2 + s.length, 0) := by
  rw [be2 _ h]
  unfold takeBE
  have e : beV (([UInt8.ofNat (s.length / 256), UInt8.ofNat s.length] ++ s ++ rest).take 2) = s.length := beV_2 _ h
  rw [e, if_neg (by simp), if_neg (by simp)]
  congr 1
  rw [show 2 + s.length = s.length + 2 by omega]
  simp
theorem takeLs_put : ∀ (l : List (List UInt8)) (pre acc rest), (∀ b ∈ l, b.length ≤ 16) → takeLs (pre ++ lets l ++ rest) l.length acc pre.length = (acc ++ l, pre.length + (lets l).length, 0)
  | [], pre, acc, rest, _ => by simp [takeLs, lets]
  | s :: l, pre, acc, rest, h => by
    have h1 := h s List.mem_cons_self
    have e : (pre ++ lets (s :: l) ++ rest).drop pre.length = putI s.length 2 ++ s ++ (lets l ++ rest) := by rw [lets_cons]; simp
    rw [List.length_cons, takeLs, e, takeBE_put _ _ (by omega), if_pos rfl]
    have h2 := takeLs_put l (pre ++ (putI s.length 2 ++ s)) (acc ++ [s]) rest fun b hb => h b (List.mem_cons_of_mem _ hb)
    rw [show pre ++ lets (s :: l) ++ rest = pre ++ (putI s.length 2 ++ s) ++ lets l ++ rest by rw [lets_cons]; simp]
    have e3 : (pre ++ (putI s.length 2 ++ s)).length = pre.length + (2 + s.length) := by rw [be2 _ (by omega)]; simp; omega
    have e4 : (lets (s :: l)).length = 2 + s.length + (lets l).length := by rw [lets_cons, be2 _ (by omega)]; simp; omega
    rw [e3] at h2
    rw [h2, e4]
    simp; omega
theorem beV_1 (n : Nat) (h : n < 256) : beV [UInt8.ofNat n] = n := by simp [beV]; omega
theorem takeR_put {l : List (List UInt8)} (h : mayL l = true) (more : List UInt8) : takeR (putR [] l ++ more) = (l, (putR [] l).length, 0) := by
  obtain ⟨h1, h2⟩ := mayL_iff.1 h
  have e := takeLs_put l (putI l.length 1) [] more h2
  rw [putR_eq, List.nil_append]
  rw [be1 _ (by omega)] at e ⊢
  have ev : beV (([UInt8.ofNat l.length] ++ lets l ++ more).take 1) = l.length := beV_1 _ (by omega)
  unfold takeR
  rw [if_neg (by simp), ev]
  have e1 : ([UInt8.ofNat l.length] : List UInt8).length = 1 := rfl
  rw [e1] at e
  rw [e, if_pos rfl, List.nil_append, if_pos h]
  simp; omega
theorem putR_len {l : List (List UInt8)} (h : mayL l = true) (b : List UInt8) : b.length + 1 ≤ (putR b l).length ∧ (putR b l).length ≤ b.length + 73 := by
  obtain ⟨h1, h2⟩ := mayL_iff.1 h
  have h3 := lets_len l h2
  rw [putR_eq, be1 _ (by omega)]
  simp only [List.length_append, List.length_cons, List.length_nil]
  omega
end Go.Proofs.Ytholeicgmkjadaa
namespace Go.Proofs.Ytholeicgmkjadaa
open Go.Ts
set_option linter.unusedSimpArgs false
set_option linter.unusedVariables false
theorem foldl_be (v : Nat) : ∀ (n a : Nat), (be v n).foldl (fun a x => a * 256 + x.toNat) a = a * 2 ^ (8 * n) + v % 2 ^ (8 * n)
  | 0, a => by simp [be, Nat.mod_one]
  | n + 1, a => by
    rw [be, List.foldl_cons, foldl_be v n]
    have e : 2 ^ (8 * (n + 1)) = 2 ^ (8 * n) * 256 := by rw [show 8 * (n + 1) = 8 * n + 8 by omega, Nat.pow_add]
    have h : (UInt8.ofNat (v / 2 ^ (8 * n))).toNat = v / 2 ^ (8 * n) % 256 := by simp
    rw [h, e, Nat.mod_mul, Nat.add_mul, Nat.mul_assoc, Nat.mul_comm 256 (2 ^ (8 * n)), Nat.mul_comm (v / 2 ^ (8 * n) % 256)]
    omega
theorem beV_be (v n : Nat) (h : v < 2 ^ (8 * n)) : beV (be v n) = v := by
  unfold beV; rw [foldl_be, Nat.zero_mul, Nat.zero_add, Nat.mod_eq_of_lt h]
theorem putI_be (v n : Nat) (h : n ≤ 8) : putI (v : Int) (n : Int) = be v n := by
  unfold putI; rw [if_pos (by omega)]; simp
end Go.Proofs.Ytholeicgmkjadaa
namespace Go.Ts
section
variable {P : Program} {G : Nat → Option TI} {σ : St} {N : Nat} {a : Env} {α : Type}
theorem al_forget {Q : Exit → Env → St → Prop} {ops : Array Oper} {i : Nat} {os : List Oper} {b : Env} (k : Knows a b) (h : AL P N ops Q i os b σ) : AL P N ops Q i os a σ :=
  fun he av w μ hi hr => h he av w μ hi (hr.knows k)
theorem al_slot {Q : Exit → Env → St → Prop} {ops : Array Oper} {i : Nat} {os : List Oper} (j : Nat) {t u : T} (hg : get a j = some t) (hw : Wk t u) (h : AL P N ops Q i os ((j, u) :: a) σ) : AL P N ops Q i os a σ :=
  al_forget (.consW hg hw (.refl a)) h
theorem op_minl {K : Env → St → Prop} {o : Oper} {x y : Operand} {tys : Array TypeId} {k : IntKind} {m n : Int}
    (hop : o.op = .call { callee := .builtin .min, args := #[x, y], argTypes := tys }) (hx : Ax a x = some (.int k m)) (hy : Ax a y = some (.int k n)) (h : m ≤ n) {d : Tmp} (hdd : o.dst = some d) (hd : Bd N (some d) = true)
    (kk : K (put a (some d) (.int k m)) σ) : AOp P N o a σ K := by
  refine op_min hop hx hy hdd hd ?_
  rw [Int.min_eq_left h]; exact kk
theorem op_minr {K : Env → St → Prop} {o : Oper} {x y : Operand} {tys : Array TypeId} {k : IntKind} {m n : Int}
    (hop : o.op = .call { callee := .builtin .min, args := #[x, y], argTypes := tys }) (hx : Ax a x = some (.int k m)) (hy : Ax a y = some (.int k n)) (h : n ≤ m) {d : Tmp} (hdd : o.dst = some d) (hd : Bd N (some d) = true)
    (kk : K (put a (some d) (.int k n)) σ) : AOp P N o a σ K := by
  refine op_min hop hx hy hdd hd ?_
  rw [Int.min_eq_right h]; exact kk
end
end Go.Ts
namespace Go.Proofs.Ytholeicgmkjadaa
open Go.Ts
set_option linter.unusedSimpArgs false
set_option linter.unusedVariables false
attribute [local irreducible] Go.Ts.AW Go.Ts.AOps Go.Ts.AL Go.Ts.AOp Go.Ts.ACalls Go.Ts.DL Go.Ts.DQ Go.Ts.EL
def iT (x : Nat) : T := .int .i64 x
instance : Enc iT 1 := ⟨fun x c h => by simp [iT, T.cells] at h; subst h; rfl, fun x => rfl⟩
def wT (x : Nat) : T := .int .u64 x
instance : Enc wT 1 := ⟨fun x c h => by simp [wT, T.cells] at h; subst h; rfl, fun x => rfl⟩
def nums : Nat → Nat → List Nat → Option (List Nat)
  | 0, id, out => if id = 1 then some out else none
  | f + 1, id, out => if id = 1 then some out else if id > 1 ∧ id % 64 > 0 then nums f (id / 64) (out ++ [id % 64]) else none
def nameB (id : Nat) : Bool := (nums 6 id []).isSome
def numsT (id : Nat) : T := match nums 6 id [] with
  | some l => .sl 1 .no (l.map iT)
  | none => .nilsl
structure NuX (id : Nat) where
  f : Nat
  hf : f ≤ 6
  id' : Nat
  h64 : id' < 18446744073709551616
  out : List Nat
  ho : out.length = 6 - f
  hr : nums f id' out = nums 6 id []
  k : Nat
theorem and63 (v : Nat) (h : v < 18446744073709551616) : IntKind.u64.wrap ((BitVec.ofInt IntKind.u64.bits (v : Int) &&& BitVec.ofInt IntKind.u64.bits 63).toNat) = ((v % 64 : Nat) : Int) := by
  have e1 : BitVec.ofInt IntKind.u64.bits (v : Int) = BitVec.ofNat 64 v := by
    show BitVec.ofInt 64 _ = _
    rw [BitVec.ofInt_natCast]
  have e2 : BitVec.ofInt IntKind.u64.bits 63 = BitVec.ofNat 64 63 := rfl
  rw [e1, e2]
  have e3 : (BitVec.ofNat 64 v &&& BitVec.ofNat 64 63).toNat = v % 64 := by
    rw [BitVec.toNat_and, BitVec.toNat_ofNat, BitVec.toNat_ofNat, Nat.mod_eq_of_lt (by omega : v < 2 ^ 64), Nat.mod_eq_of_lt (by decide)]
    exact Nat.and_two_pow_sub_one_eq_mod v 6
  refine (congrArg (fun n : Nat => IntKind.u64.wrap (n : Int)) e3).trans ?_
  exact u64_in (by omega) (by omega)
section
variable {P : Program} {G : Nat → Option TI} {σ : St} {N : Nat} {a : Env}
theorem r_and63 {t yt : TypeId} {x : Operand} {v : Nat} {ti : TI} {d : Tmp} {ty : TypeId} {pos : String} {af : Array Edge} {gd : Option (Nat × Bool)} {K : Env → St → Prop} (hG : Fits P G) (ht : G t = some ti) (hx : Ax a x = some (.int .u64 (v : Int))) (h : v < 18446744073709551616) (hd : Bd N (some d) = true)
    (kk : K (put a (some d) (.int .u64 ((v % 64 : Nat) : Int))) σ) : AOp P N ⟨some d, .binOp .and t x (.const (.int .u64 63)) yt, ty, pos, af, gd⟩ a σ K := by
  refine op_q hG (t := .int .u64 ((v % 64 : Nat) : Int)) ?_ rfl hd kk
  rw [← and63 v h]
  simp only [B1, hx, ht]; rfl
end
theorem shr6 (v : Nat) : (v : Int) / 2 ^ (min (Int.toNat 6) IntKind.u64.bits) = ((v / 64 : Nat) : Int) := by
  rw [show (min (Int.toNat 6) IntKind.u64.bits) = 6 from rfl]; omega
theorem name_numbers {id : Nat} (h : id < 18446744073709551616) : Ts.Pure Try.prog 80 [.int .u64 id] (.tup [numsT id, .bool (nameB id)]) := by
  intro off
  refine Bv (N := 29) (rs := [.tmp 2, .tmp 3]) hG Try.func80 rfl rfl rfl rfl rfl ?_
  repeat' (first
    | ((show AL _ _ _ _ _ _ _ _; refine Af Y ?_); (first
      | (show AOp _ _ ⟨_, .move _, _, _, _, _⟩ _ _ _; refine Aq hG Y Y ?_)
      | (show AOp _ _ ⟨_, .assign _, _, _, _, _⟩ _ _ _; refine A7 hG Y Y ?_)
      | (show AOp _ _ ⟨_, .call ⟨.builtin .len, _, _⟩, _, _, _, _⟩ _ _ _; first | refine Ay hG Y Y Y Y ?_ | refine Bf hG Y Y Y Y Y ?_)
      | (show AOp _ _ ⟨_, .binOp .shr _ _ _ _, _, _, _, _⟩ _ _ _; refine r_shr hG Y Y Y Y (by omega) ?_)
      | (show AOp _ _ ⟨_, .binOp .and _ _ _ _, _, _, _, _⟩ _ _ _; refine r_and63 hG Y Y (by omega) Y ?_)
      | (show AOp _ _ ⟨_, .binOp _ _ _ _ _, _, _, _, _⟩ _ _ _; first | refine Av hG Y Y Y Y Y (by omega) ?_ | refine Aw hG Y Y Y Y Y (by omega) ?_ | (refine Au hG Y Y Y Y Y (fun h => ?_) (fun h => ?_)) | refine r_bin' hG Y Y Y ?_)
      | (show AOp _ _ ⟨_, .convert _ _ _, _, _, _, _⟩ _ _ _; first | refine Bp hG Y Y Y Y Y (by omega) ?_ | refine B0 hG Y Y Y Y Y ?_)
      | (show AOp _ _ ⟨_, .pick _ _ _, _, _, _, _⟩ _ _ _; refine Br hG Y Y Y ?_)
      | (show AOp _ _ ⟨_, .buildSlice _ _ _, _, _, _, _⟩ _ _ _; first | refine r_mk (sz := 1) hG Y Y Y Y Y Y Y ?_)
      | (show AOp _ _ ⟨_, .call ⟨.builtin .append, _, _⟩, _, _, _, _⟩ _ _ _; first | refine Bz (sz := 1) (xs := []) hG Y Y Y Y Y Y Y ⟨_, Y⟩ Y Y Y Y Y Y Y (by first | omega | (simp; omega)) (fun k => ?_) | refine B3 0 hG Y Y Y Y Y Y Y ⟨_, Y⟩ Y Y Y Y Y (by first | omega | (simp only [List.length_append, List.length_cons, List.length_nil]; omega)) (fun k => ?_) | fail)
      | refine r_q hG Y Y Y ?_))
    | (show AL _ _ _ _ _ _ _ _; first | refine Bn Y Y Y ?_ | (refine As ?_; first | show AW _ _ _ _ _ _ | show ∃ x', _ < _ ∧ _)) | (show AW _ _ (.seq _ _) _ _ _; refine Ah ?_; intro Q1) | (show AW _ _ (.region _ _ false) _ _ _; refine Ad ?_; intro O1) | (show AW _ _ (.cond _ _ _) _ _ _; first | refine Aj Y ?_ | refine Ai Y ?_) | (show AW _ _ (.skip) _ _ _; refine Am ?_; first | show AW _ _ _ _ _ _ | show ∃ x', _ < _ ∧ _) | (show AW _ _ (.goto _) _ _ _; refine Bm ?_; try dsimp only [Al, Aa, Ak, Ab]) | (show AW _ _ (.ret) _ _ _; refine Ar ?_; try dsimp only [Al, Aa, Ak, Ab]) | fail)
  refine aw_scope' 0 rfl (X := NuX id) (fun x => [(0, .int .u64 x.id'), (4, .sl 1 (.tok x.k) (x.out.map iT))]) (fun x => ⟨[], [x.k], off, none⟩) (fun x => x.f) ?_ ?_
  · rintro ⟨f, hf, id', h64, out, ho, hr, k⟩
    dsimp only
    have hr' : numsT id = match nums f id' out with
      | some l => .sl 1 .no (l.map iT)
      | none => .nilsl := by rw [hr]; rfl
    have hn' : nameB id = (nums f id' out).isSome := by rw [hr]; rfl
    by_cases h1 : id' = 1
    · have hz : nums f id' out = some out := by cases f <;> simp [nums, h1]
      rw [hz] at hr' hn'
      repeat' (first
    | ((show AL _ _ _ _ _ _ _ _; refine Af Y ?_); (first
      | (show AOp _ _ ⟨_, .move _, _, _, _, _⟩ _ _ _; refine Aq hG Y Y ?_)
      | (show AOp _ _ ⟨_, .assign _, _, _, _, _⟩ _ _ _; refine A7 hG Y Y ?_)
      | (show AOp _ _ ⟨_, .call ⟨.builtin .len, _, _⟩, _, _, _, _⟩ _ _ _; first | refine Ay hG Y Y Y Y ?_ | refine Bf hG Y Y Y Y Y ?_)
      | (show AOp _ _ ⟨_, .binOp .shr _ _ _ _, _, _, _, _⟩ _ _ _; refine r_shr hG Y Y Y Y (by omega) ?_)
      | (show AOp _ _ ⟨_, .binOp .and _ _ _ _, _, _, _, _⟩ _ _ _; refine r_and63 hG Y Y (by omega) Y ?_)
      | (show AOp _ _ ⟨_, .binOp _ _ _ _ _, _, _, _, _⟩ _ _ _; first | refine Av hG Y Y Y Y Y (by omega) ?_ | refine Aw hG Y Y Y Y Y (by omega) ?_ | (refine Au hG Y Y Y Y Y (fun h => ?_) (fun h => ?_)) | refine r_bin' hG Y Y Y ?_)
      | (show AOp _ _ ⟨_, .convert _ _ _, _, _, _, _⟩ _ _ _; first | refine Bp hG Y Y Y Y Y (by omega) ?_ | refine B0 hG Y Y Y Y Y ?_)
      | (show AOp _ _ ⟨_, .pick _ _ _, _, _, _, _⟩ _ _ _; refine Br hG Y Y Y ?_)
      | (show AOp _ _ ⟨_, .buildSlice _ _ _, _, _, _, _⟩ _ _ _; first | refine r_mk (sz := 1) hG Y Y Y Y Y Y Y ?_)
      | (show AOp _ _ ⟨_, .call ⟨.builtin .append, _, _⟩, _, _, _, _⟩ _ _ _; first | refine Bz (sz := 1) (xs := []) hG Y Y Y Y Y Y Y ⟨_, Y⟩ Y Y Y Y Y Y Y (by first | omega | (simp; omega)) (fun k => ?_) | refine B3 0 hG Y Y Y Y Y Y Y ⟨_, Y⟩ Y Y Y Y Y (by first | omega | (simp only [List.length_append, List.length_cons, List.length_nil]; omega)) (fun k => ?_) | fail)
      | refine r_q hG Y Y Y ?_))
    | (show AL _ _ _ _ _ _ _ _; first | refine Bn Y Y Y ?_ | (refine As ?_; first | show AW _ _ _ _ _ _ | show ∃ x', _ < _ ∧ _)) | (show AW _ _ (.seq _ _) _ _ _; refine Ah ?_; intro Q1) | (show AW _ _ (.region _ _ false) _ _ _; refine Ad ?_; intro O1) | (show AW _ _ (.cond _ _ _) _ _ _; first | refine Aj Y ?_ | refine Ai Y ?_) | (show AW _ _ (.skip) _ _ _; refine Am ?_; first | show AW _ _ _ _ _ _ | show ∃ x', _ < _ ∧ _) | (show AW _ _ (.goto _) _ _ _; refine Bm ?_; try dsimp only [Al, Aa, Ak, Ab]) | (show AW _ _ (.ret) _ _ _; refine Ar ?_; try dsimp only [Al, Aa, Ak, Ab]) | fail)
      exact Be (Ao rfl (Ao rfl A8)) (by rw [hr', hn']; exact Wk.tupL (wk2 (Wk.own _ _ _) (.refl _))) rfl
    by_cases hc : id' > 1 ∧ id' % 64 > 0 ∧ 0 < f
    · obtain ⟨g, rfl⟩ : ∃ g, f = g + 1 := ⟨f - 1, by omega⟩
      have hz : nums (g + 1) id' out = nums g (id' / 64) (out ++ [id' % 64]) := by rw [nums, if_neg h1, if_pos ⟨hc.1, hc.2.1⟩]
      repeat' (first
    | ((show AL _ _ _ _ _ _ _ _; refine Af Y ?_); (first
      | (show AOp _ _ ⟨_, .move _, _, _, _, _⟩ _ _ _; refine Aq hG Y Y ?_)
      | (show AOp _ _ ⟨_, .assign _, _, _, _, _⟩ _ _ _; refine A7 hG Y Y ?_)
      | (show AOp _ _ ⟨_, .call ⟨.builtin .len, _, _⟩, _, _, _, _⟩ _ _ _; first | refine Ay hG Y Y Y Y ?_ | refine Bf hG Y Y Y Y Y ?_)
      | (show AOp _ _ ⟨_, .binOp .shr _ _ _ _, _, _, _, _⟩ _ _ _; refine r_shr hG Y Y Y Y (by omega) ?_)
      | (show AOp _ _ ⟨_, .binOp .and _ _ _ _, _, _, _, _⟩ _ _ _; refine r_and63 hG Y Y (by omega) Y ?_)
      | (show AOp _ _ ⟨_, .binOp _ _ _ _ _, _, _, _, _⟩ _ _ _; first | refine Av hG Y Y Y Y Y (by omega) ?_ | refine Aw hG Y Y Y Y Y (by omega) ?_ | (refine Au hG Y Y Y Y Y (fun h => ?_) (fun h => ?_)) | refine r_bin' hG Y Y Y ?_)
      | (show AOp _ _ ⟨_, .convert _ _ _, _, _, _, _⟩ _ _ _; first | refine Bp hG Y Y Y Y Y (by omega) ?_ | refine B0 hG Y Y Y Y Y ?_)
      | (show AOp _ _ ⟨_, .pick _ _ _, _, _, _, _⟩ _ _ _; refine Br hG Y Y Y ?_)
      | (show AOp _ _ ⟨_, .buildSlice _ _ _, _, _, _, _⟩ _ _ _; first | refine r_mk (sz := 1) hG Y Y Y Y Y Y Y ?_)
      | (show AOp _ _ ⟨_, .call ⟨.builtin .append, _, _⟩, _, _, _, _⟩ _ _ _; first | refine B3 0 (ys := [id' % 64]) hG Y Y Y Y Y Y Y ⟨_, Y⟩ Y Y Y Y Y (by simp only [List.length_append, List.length_map, List.length_cons, List.length_nil]; omega) (fun k => ?_) | refine Bz (sz := 1) (xs := []) hG Y Y Y Y Y Y Y ⟨_, Y⟩ Y Y Y Y Y Y Y (by first | omega | (simp; omega)) (fun k => ?_) | refine B3 0 hG Y Y Y Y Y Y Y ⟨_, Y⟩ Y Y Y Y Y (by first | omega | (simp only [List.length_append, List.length_cons, List.length_nil]; omega)) (fun k => ?_) | fail)
      | refine r_q hG Y Y Y ?_))
    | (show AL _ _ _ _ _ _ _ _; first | refine Bn Y Y Y ?_ | (refine As ?_; first | show AW _ _ _ _ _ _ | show ∃ x', _ < _ ∧ _)) | (show AW _ _ (.seq _ _) _ _ _; refine Ah ?_; intro Q1) | (show AW _ _ (.region _ _ false) _ _ _; refine Ad ?_; intro O1) | (show AW _ _ (.cond _ _ _) _ _ _; first | refine Aj Y ?_ | refine Ai Y ?_) | (show AW _ _ (.skip) _ _ _; refine Am ?_; first | show AW _ _ _ _ _ _ | show ∃ x', _ < _ ∧ _) | (show AW _ _ (.goto _) _ _ _; refine Bm ?_; try dsimp only [Al, Aa, Ak, Ab]) | (show AW _ _ (.ret) _ _ _; refine Ar ?_; try dsimp only [Al, Aa, Ak, Ab]) | fail)
      refine ⟨rfl, ⟨g, by omega, id' / 64, by omega, out ++ [id' % 64], by simp; omega, by rw [← hz]; exact hr, _⟩, by dsimp only; omega, ?_, drop_tok⟩
      exact .consW rfl (.int (shr6 id')) (.cons rfl (.nil _))
    · have hz : nums f id' out = none := by
        cases f with
        | zero => rw [nums, if_neg h1]
        | succ g => rw [nums, if_neg h1, if_neg (fun h => hc ⟨h.1, h.2, by omega⟩)]
      rw [hz] at hr' hn'
      repeat' (first
    | ((show AL _ _ _ _ _ _ _ _; refine Af Y ?_); (first
      | (show AOp _ _ ⟨_, .move _, _, _, _, _⟩ _ _ _; refine Aq hG Y Y ?_)
      | (show AOp _ _ ⟨_, .assign _, _, _, _, _⟩ _ _ _; refine A7 hG Y Y ?_)
      | (show AOp _ _ ⟨_, .call ⟨.builtin .len, _, _⟩, _, _, _, _⟩ _ _ _; first | refine Ay hG Y Y Y Y ?_ | refine Bf hG Y Y Y Y Y ?_)
      | (show AOp _ _ ⟨_, .binOp .shr _ _ _ _, _, _, _, _⟩ _ _ _; refine r_shr hG Y Y Y Y (by omega) ?_)
      | (show AOp _ _ ⟨_, .binOp .and _ _ _ _, _, _, _, _⟩ _ _ _; refine r_and63 hG Y Y (by omega) Y ?_)
      | (show AOp _ _ ⟨_, .binOp _ _ _ _ _, _, _, _, _⟩ _ _ _; first | refine Av hG Y Y Y Y Y (by omega) ?_ | refine Aw hG Y Y Y Y Y (by omega) ?_ | (refine Au hG Y Y Y Y Y (fun h => ?_) (fun h => ?_)) | refine r_bin' hG Y Y Y ?_)
      | (show AOp _ _ ⟨_, .convert _ _ _, _, _, _, _⟩ _ _ _; first | refine Bp hG Y Y Y Y Y (by omega) ?_ | refine B0 hG Y Y Y Y Y ?_)
      | (show AOp _ _ ⟨_, .pick _ _ _, _, _, _, _⟩ _ _ _; refine Br hG Y Y Y ?_)
      | (show AOp _ _ ⟨_, .buildSlice _ _ _, _, _, _, _⟩ _ _ _; first | refine r_mk (sz := 1) hG Y Y Y Y Y Y Y ?_)
      | (show AOp _ _ ⟨_, .call ⟨.builtin .append, _, _⟩, _, _, _, _⟩ _ _ _; first | refine Bz (sz := 1) (xs := []) hG Y Y Y Y Y Y Y ⟨_, Y⟩ Y Y Y Y Y Y Y (by first | omega | (simp; omega)) (fun k => ?_) | refine B3 0 hG Y Y Y Y Y Y Y ⟨_, Y⟩ Y Y Y Y Y (by first | omega | (simp only [List.length_append, List.length_cons, List.length_nil]; omega)) (fun k => ?_) | fail)
      | refine r_q hG Y Y Y ?_))
    | (show AL _ _ _ _ _ _ _ _; first | refine Bn Y Y Y ?_ | (refine As ?_; first | show AW _ _ _ _ _ _ | show ∃ x', _ < _ ∧ _)) | (show AW _ _ (.seq _ _) _ _ _; refine Ah ?_; intro Q1) | (show AW _ _ (.region _ _ false) _ _ _; refine Ad ?_; intro O1) | (show AW _ _ (.cond _ _ _) _ _ _; first | refine Aj Y ?_ | refine Ai Y ?_) | (show AW _ _ (.skip) _ _ _; refine Am ?_; first | show AW _ _ _ _ _ _ | show ∃ x', _ < _ ∧ _) | (show AW _ _ (.goto _) _ _ _; refine Bm ?_; try dsimp only [Al, Aa, Ak, Ab]) | (show AW _ _ (.ret) _ _ _; refine Ar ?_; try dsimp only [Al, Aa, Ak, Ab]) | fail)
      all_goals exact Be (Ao rfl (Ao rfl A8)) (by rw [hr', hn']; exact .refl _) rfl
  · intro key
    repeat' (first
    | ((show AL _ _ _ _ _ _ _ _; refine Af Y ?_); (first
      | (show AOp _ _ ⟨_, .move _, _, _, _, _⟩ _ _ _; refine Aq hG Y Y ?_)
      | (show AOp _ _ ⟨_, .assign _, _, _, _, _⟩ _ _ _; refine A7 hG Y Y ?_)
      | (show AOp _ _ ⟨_, .call ⟨.builtin .len, _, _⟩, _, _, _, _⟩ _ _ _; first | refine Ay hG Y Y Y Y ?_ | refine Bf hG Y Y Y Y Y ?_)
      | (show AOp _ _ ⟨_, .binOp .shr _ _ _ _, _, _, _, _⟩ _ _ _; refine r_shr hG Y Y Y Y (by omega) ?_)
      | (show AOp _ _ ⟨_, .binOp .and _ _ _ _, _, _, _, _⟩ _ _ _; refine r_and63 hG Y Y (by omega) Y ?_)
      | (show AOp _ _ ⟨_, .binOp _ _ _ _ _, _, _, _, _⟩ _ _ _; first | refine Av hG Y Y Y Y Y (by omega) ?_ | refine Aw hG Y Y Y Y Y (by omega) ?_ | (refine Au hG Y Y Y Y Y (fun h => ?_) (fun h => ?_)) | refine r_bin' hG Y Y Y ?_)
      | (show AOp _ _ ⟨_, .convert _ _ _, _, _, _, _⟩ _ _ _; first | refine Bp hG Y Y Y Y Y (by omega) ?_ | refine B0 hG Y Y Y Y Y ?_)
      | (show AOp _ _ ⟨_, .pick _ _ _, _, _, _, _⟩ _ _ _; refine Br hG Y Y Y ?_)
      | (show AOp _ _ ⟨_, .buildSlice _ _ _, _, _, _, _⟩ _ _ _; first | refine r_mk (sz := 1) hG Y Y Y Y Y Y Y ?_)
      | (show AOp _ _ ⟨_, .call ⟨.builtin .append, _, _⟩, _, _, _, _⟩ _ _ _; first | refine Bz (sz := 1) (xs := []) hG Y Y Y Y Y Y Y ⟨_, Y⟩ Y Y Y Y Y Y Y (by first | omega | (simp; omega)) (fun k => ?_) | refine B3 0 hG Y Y Y Y Y Y Y ⟨_, Y⟩ Y Y Y Y Y (by first | omega | (simp only [List.length_append, List.length_cons, List.length_nil]; omega)) (fun k => ?_) | fail)
      | refine r_q hG Y Y Y ?_))
    | (show AL _ _ _ _ _ _ _ _; first | refine Bn Y Y Y ?_ | (refine As ?_; first | show AW _ _ _ _ _ _ | show ∃ x', _ < _ ∧ _)) | (show AW _ _ (.seq _ _) _ _ _; refine Ah ?_; intro Q1) | (show AW _ _ (.region _ _ false) _ _ _; refine Ad ?_; intro O1) | (show AW _ _ (.cond _ _ _) _ _ _; first | refine Aj Y ?_ | refine Ai Y ?_) | (show AW _ _ (.skip) _ _ _; refine Am ?_; first | show AW _ _ _ _ _ _ | show ∃ x', _ < _ ∧ _) | (show AW _ _ (.goto _) _ _ _; refine Bm ?_; try dsimp only [Al, Aa, Ak, Ab]) | (show AW _ _ (.ret) _ _ _; refine Ar ?_; try dsimp only [Al, Aa, Ak, Ab]) | fail)
    refine aw_label ?_
    show AW _ _ _ _ _ _
    refine aw_tok0 4 1 rfl rfl rfl rfl (fun k => ?_)
    refine aw_forget ?_ (key ⟨6, by omega, id, h, [], rfl, rfl, k⟩)
    exact .cons rfl (.cons rfl (.nil _))
theorem name_May {id : Nat} (h : id < 18446744073709551616) : Ts.Pure Try.prog 57 [.int .u64 id] (.bool (nameB id)) := by
  intro off
  refine Bv (N := 11) (rs := [.tmp 2]) hG Try.func57 rfl rfl rfl rfl rfl ?_
  have hc := name_numbers h
  repeat' (first
    | ((show AL _ _ _ _ _ _ _ _; refine Af Y ?_); (first
      | (show AOp _ _ ⟨_, .move _, _, _, _, _⟩ _ _ _; refine Aq hG Y Y ?_)
      | (show AOp _ _ ⟨_, .assign _, _, _, _, _⟩ _ _ _; refine A7 hG Y Y ?_)
      | (show AOp _ _ ⟨_, .call ⟨.value _, _, _⟩, _, _, _, _⟩ _ _ _; first | refine Bc Y Y Y Y Y (by apply hc <;> (first | assumption | omega | exact Ac _ _ | exact Ae _ | exact Ag _ _ | exact Ap _ | rfl | (simp; omega))) ?_ | fail)
      | refine r_q hG Y Y Y ?_))
    | (show AL _ _ _ _ _ _ _ _; first | refine Bn Y Y Y ?_ | (refine As ?_; first | show AW _ _ _ _ _ _ | show ∃ x', _ < _ ∧ _)) | (show AW _ _ (.seq _ _) _ _ _; refine Ah ?_; intro Q1) | (show AW _ _ (.region _ _ false) _ _ _; refine Ad ?_; intro O1) | (show AW _ _ (.ret) _ _ _; refine Ar ?_; try dsimp only [Al, Aa, Ak, Ab]) | fail)
  exact Be (Ao rfl A8) (.refl _) rfl
end Go.Proofs.Ytholeicgmkjadaa
namespace Go.Proofs.Ytholeicgmkjadaa
open Go.Ts
attribute [local irreducible] Go.Ts.AW Go.Ts.AOps Go.Ts.AL Go.Ts.AOp Go.Ts.ACalls Go.Ts.DL Go.Ts.DQ Go.Ts.EL
def placeN (p n : Int) : Int := if n < 1 then 0 else if p.tmod n < 0 then p.tmod n + n else p.tmod n
end Go.Proofs.Ytholeicgmkjadaa
