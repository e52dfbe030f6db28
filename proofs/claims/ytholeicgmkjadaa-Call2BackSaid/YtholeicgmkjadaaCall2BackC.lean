/- Part of the proof of the law Call2Back: the texts S1, S2, S3, PC, S4, S5, RP, OP0, O1, LP, S7, S8. No conditions. -/
import Derived.Test.YtholeicgmkjadaaCall2BackB
set_option linter.unusedSimpArgs false
set_option linter.unusedVariables false
namespace Go.Proofs.Ytholeicgmkjadaa
open Go.Ts
attribute [local irreducible] Go.Ts.AW Go.Ts.AOps Go.Ts.AL Go.Ts.AOp Go.Ts.ACalls Go.Ts.DL
theorem mix : Try.prog.follows .mixedOrders = true := by kernel_rfl

theorem clone_b {x : T} {b : List UInt8} (hx : bytesT x = some b) (hl : b.length ≤ 4294967296) : Owns Try.prog 55 [x] 1 (b.map bT) := by
  refine Owns.weak (us := [sT b]) ?_ (wk1 (bytesT_wk hx))
  intro off
  refine A5 (N := 8) (rs := [.tmp 2]) hG Try.func55 rfl rfl rfl rfl rfl ?_
  repeat' (first
    | ((show AL _ _ _ _ _ _ _ _; refine Ad Y ?_); (first
      | (show AOp _ _ ⟨_, .move _, _, _, _, _⟩ _ _ _; refine Aq hG Y Y ?_)
      | (show AOp _ _ ⟨_, .assign _, _, _, _, _⟩ _ _ _; refine Az hG Y Y ?_)
      | (show AOp _ _ ⟨_, .binOp _ _ _ _ _, _, _, _, _⟩ _ _ _; first | refine r_bin' hG Y Y Y ?_)
      | (show AOp _ _ ⟨_, .buildSlice _ _ _, _, _, _, _⟩ _ _ _; first | refine r_mk (sz := 1) hG Y Y Y Y Y Y Y ?_)
      | (show AOp _ _ ⟨_, .call ⟨.builtin .append, _, _⟩, _, _, _, _⟩ _ _ _; first | refine Bt (sz := 1) (xs := []) hG Y Y Y Y Y Y Y ⟨_, Y⟩ Y Y Y Y Y Y Y (by first | omega | (simp; omega)) (fun k => ?_) | refine Bv 0 hG Y Y Y Y Y Y Y ⟨_, Y⟩ Y Y Y Y Y (by first | omega | (simp only [List.length_append, List.length_cons, List.length_nil]; omega)) (fun k => ?_) | fail)
      | refine r_q hG Y Y Y ?_))
    | (show AL _ _ _ _ _ _ _ _; first | refine A9 Y Y Y ?_ | (refine Al ?_; first | show AW _ _ _ _ _ _ | show ∃ x', _ < _ ∧ _)) | (show AW _ _ (.seq _ _) _ _ _; refine Af ?_; intro Q1) | (show AW _ _ (.region _ _ false) _ _ _; refine Ae ?_; intro O1) | (show AW _ _ (.cond _ _ _) _ _ _; first | refine Ai Y ?_ | refine Aj Y ?_) | (show AW _ _ (.skip) _ _ _; refine Ag ?_; first | show AW _ _ _ _ _ _ | show ∃ x', _ < _ ∧ _) | (show AW _ _ (.ret) _ _ _; refine Ar ?_; try dsimp only [Ao, Aa, Am, Ab]) | fail)
  refine Ad rfl (op_eqnil hG rfl rfl rfl rfl rfl rfl rfl rfl (fun b hb => ?_))
  cases b with
  | true =>
    repeat' (first
    | ((show AL _ _ _ _ _ _ _ _; refine Ad Y ?_); (first
      | (show AOp _ _ ⟨_, .move _, _, _, _, _⟩ _ _ _; refine Aq hG Y Y ?_)
      | (show AOp _ _ ⟨_, .assign _, _, _, _, _⟩ _ _ _; refine Az hG Y Y ?_)
      | (show AOp _ _ ⟨_, .binOp _ _ _ _ _, _, _, _, _⟩ _ _ _; first | refine r_bin' hG Y Y Y ?_)
      | (show AOp _ _ ⟨_, .buildSlice _ _ _, _, _, _, _⟩ _ _ _; first | refine r_mk (sz := 1) hG Y Y Y Y Y Y Y ?_)
      | (show AOp _ _ ⟨_, .call ⟨.builtin .append, _, _⟩, _, _, _, _⟩ _ _ _; first | refine Bt (sz := 1) (xs := []) hG Y Y Y Y Y Y Y ⟨_, Y⟩ Y Y Y Y Y Y Y (by first | omega | (simp; omega)) (fun k => ?_) | refine Bv 0 hG Y Y Y Y Y Y Y ⟨_, Y⟩ Y Y Y Y Y (by first | omega | (simp only [List.length_append, List.length_cons, List.length_nil]; omega)) (fun k => ?_) | fail)
      | refine r_q hG Y Y Y ?_))
    | (show AL _ _ _ _ _ _ _ _; first | refine A9 Y Y Y ?_ | (refine Al ?_; first | show AW _ _ _ _ _ _ | show ∃ x', _ < _ ∧ _)) | (show AW _ _ (.seq _ _) _ _ _; refine Af ?_; intro Q1) | (show AW _ _ (.region _ _ false) _ _ _; refine Ae ?_; intro O1) | (show AW _ _ (.cond _ _ _) _ _ _; first | refine Ai Y ?_ | refine Aj Y ?_) | (show AW _ _ (.skip) _ _ _; refine Ag ?_; first | show AW _ _ _ _ _ _ | show ∃ x', _ < _ ∧ _) | (show AW _ _ (.ret) _ _ _; refine Ar ?_; try dsimp only [Ao, Aa, Am, Ab]) | fail)
    exact ret_owns0 (sz := 1) (A1 rfl A0) rfl rfl (by rw [hb rfl]) rfl
  | false =>
    repeat' (first
    | ((show AL _ _ _ _ _ _ _ _; refine Ad Y ?_); (first
      | (show AOp _ _ ⟨_, .move _, _, _, _, _⟩ _ _ _; refine Aq hG Y Y ?_)
      | (show AOp _ _ ⟨_, .assign _, _, _, _, _⟩ _ _ _; refine Az hG Y Y ?_)
      | (show AOp _ _ ⟨_, .binOp _ _ _ _ _, _, _, _, _⟩ _ _ _; first | refine r_bin' hG Y Y Y ?_)
      | (show AOp _ _ ⟨_, .buildSlice _ _ _, _, _, _, _⟩ _ _ _; first | refine r_mk (sz := 1) hG Y Y Y Y Y Y Y ?_)
      | (show AOp _ _ ⟨_, .call ⟨.builtin .append, _, _⟩, _, _, _, _⟩ _ _ _; first | refine Bt (sz := 1) (xs := []) hG Y Y Y Y Y Y Y ⟨_, Y⟩ Y Y Y Y Y Y Y (by first | omega | (simp; omega)) (fun k => ?_) | refine Bv 0 hG Y Y Y Y Y Y Y ⟨_, Y⟩ Y Y Y Y Y (by first | omega | (simp only [List.length_append, List.length_cons, List.length_nil]; omega)) (fun k => ?_) | fail)
      | refine r_q hG Y Y Y ?_))
    | (show AL _ _ _ _ _ _ _ _; first | refine A9 Y Y Y ?_ | (refine Al ?_; first | show AW _ _ _ _ _ _ | show ∃ x', _ < _ ∧ _)) | (show AW _ _ (.seq _ _) _ _ _; refine Af ?_; intro Q1) | (show AW _ _ (.region _ _ false) _ _ _; refine Ae ?_; intro O1) | (show AW _ _ (.cond _ _ _) _ _ _; first | refine Ai Y ?_ | refine Aj Y ?_) | (show AW _ _ (.skip) _ _ _; refine Ag ?_; first | show AW _ _ _ _ _ _ | show ∃ x', _ < _ ∧ _) | (show AW _ _ (.ret) _ _ _; refine Ar ?_; try dsimp only [Ao, Aa, Am, Ab]) | fail)
    exact ret_owns 0 (A1 rfl A0) rfl (by rfl) rfl

def be (v : Nat) : Nat → List UInt8
  | 0 => []
  | n + 1 => UInt8.ofNat (v / 2 ^ (8 * n)) :: be v n
def putI (v n : Int) : List UInt8 := if 0 ≤ n ∧ n ≤ 8 then be v.toNat n.toNat else []
theorem be_length (v n : Nat) : (be v n).length = n := by induction n <;> simp [be, *]
theorem putI_le (v n : Int) : (putI v n).length ≤ 8 := by
  unfold putI; split
  · rw [be_length]; omega
  · simp
theorem bT_of (n : Int) (k : Nat) (h : n = (k : Int)) : T.int .u8 (IntKind.u8.wrap n) = bT (UInt8.ofNat k) := by
  subst h; rw [u8_wrap]; unfold bT; congr 1

structure PutX (v n : Int) where
  hn : 0 ≤ n ∧ n ≤ 8
  i : Nat
  pre : List UInt8
  k : Nat
  hi : i ≤ 8
  hp : pre ++ be v.toNat i = be v.toNat n.toNat
theorem num_Put {x : T} {b : List UInt8} {v n : Int} (hx : bytesT x = some b) (hl : b.length ≤ 4294967000) (hv : 0 ≤ v) :
    Owns Try.prog 32 [x, .int .u64 v, .int .i64 n] 1 ((b ++ putI v n).map bT) := by
  refine Owns.weak (us := [sT b, .int .u64 v, .int .i64 n]) ?_ (wk3 (bytesT_wk hx) (.refl _) (.refl _))
  intro off
  refine A5 (N := 33) (rs := [.tmp 6]) hG Try.func32 rfl rfl rfl rfl rfl ?_
  repeat' (first
    | ((show AL _ _ _ _ _ _ _ _; refine Ad Y ?_); (first
      | (show AOp _ _ ⟨_, .move _, _, _, _, _⟩ _ _ _; refine Aq hG Y Y ?_)
      | (show AOp _ _ ⟨_, .assign _, _, _, _, _⟩ _ _ _; refine Az hG Y Y ?_)
      | (show AOp _ _ ⟨_, .binOp .sub _ _ _ _, _, _, _, _⟩ _ _ _; first | refine A3 hG Y Y Y Y Y (by omega) ?_)
      | (show AOp _ _ ⟨_, .binOp .mul _ _ _ _, _, _, _, _⟩ _ _ _; first | refine A3 hG Y Y Y Y Y (by omega) ?_)
      | (show AOp _ _ ⟨_, .binOp .shr _ _ _ _, _, _, _, _⟩ _ _ _; refine r_shr hG Y Y Y Y (by omega) ?_)
      | (show AOp _ _ ⟨_, .binOp _ _ _ _ _, _, _, _, _⟩ _ _ _; first | refine Aw hG Y Y Y Y Y (by omega) ?_ | refine Av hG Y Y Y Y Y (by omega) ?_ | (refine Au hG Y Y Y Y Y (fun h => ?_) (fun h => ?_)))
      | (show AOp _ _ ⟨_, .convert _ _ _, _, _, _, _⟩ _ _ _; first | refine Bz hG Y Y Y Y Y (by omega) ?_ | refine r_cv_u8 hG Y Y Y Y Y (by omega) ?_ | refine Bh hG Y Y Y Y Y ?_)
      | (show AOp _ _ ⟨_, .pick _ _ _, _, _, _, _⟩ _ _ _; refine B2 hG Y Y Y ?_)
      | (show AOp _ _ ⟨_, .buildSlice _ _ _, _, _, _, _⟩ _ _ _; first | refine r_mk (sz := 1) hG Y Y Y Y Y Y Y ?_)
      | (show AOp _ _ ⟨_, .call ⟨.builtin .append, _, _⟩, _, _, _, _⟩ _ _ _; first | refine Bt (sz := 1) (xs := []) hG Y Y Y Y Y Y Y ⟨_, Y⟩ Y Y Y Y Y Y Y (by first | omega | (simp; omega)) (fun k => ?_) | refine Bv 0 hG Y Y Y Y Y Y Y ⟨_, Y⟩ Y Y Y Y Y (by first | omega | (simp only [List.length_append, List.length_cons, List.length_nil]; omega)) (fun k => ?_) | fail)
      | refine r_q hG Y Y Y ?_))
    | (show AL _ _ _ _ _ _ _ _; first | refine A9 Y Y Y ?_ | (refine Al ?_; first | show AW _ _ _ _ _ _ | show ∃ x', _ < _ ∧ _)) | (show AW _ _ (.seq _ _) _ _ _; refine Af ?_; intro Q1) | (show AW _ _ (.region _ _ false) _ _ _; refine Ae ?_; intro O1) | (show AW _ _ (.cond _ _ _) _ _ _; first | refine Ai Y ?_ | refine Aj Y ?_) | (show AW _ _ (.skip) _ _ _; refine Ag ?_; first | show AW _ _ _ _ _ _ | show ∃ x', _ < _ ∧ _) | (show AW _ _ (.goto _) _ _ _; refine Bm ?_; try dsimp only [Ao, Aa, Am, Ab]) | (show AW _ _ (.ret) _ _ _; refine Ar ?_; try dsimp only [Ao, Aa, Am, Ab]) | fail)
  refine aw_scope' 0 rfl (X := PutX v n) (fun x => [(1, .int .u64 v), (7, .sl 1 (.tok x.k) ((b ++ x.pre).map bT)), (8, .int .i64 x.i)]) (fun x => ⟨[], [x.k], off, none⟩) (fun x => x.i) ?_ ?_
  · rintro ⟨hn, i, pre, k, hi, hp⟩
    dsimp only
    repeat' (first
    | ((show AL _ _ _ _ _ _ _ _; refine Ad Y ?_); (first
      | (show AOp _ _ ⟨_, .move _, _, _, _, _⟩ _ _ _; refine Aq hG Y Y ?_)
      | (show AOp _ _ ⟨_, .assign _, _, _, _, _⟩ _ _ _; refine Az hG Y Y ?_)
      | (show AOp _ _ ⟨_, .binOp .sub _ _ _ _, _, _, _, _⟩ _ _ _; first | refine A3 hG Y Y Y Y Y (by omega) ?_)
      | (show AOp _ _ ⟨_, .binOp .mul _ _ _ _, _, _, _, _⟩ _ _ _; first | refine A3 hG Y Y Y Y Y (by omega) ?_)
      | (show AOp _ _ ⟨_, .binOp .shr _ _ _ _, _, _, _, _⟩ _ _ _; refine r_shr hG Y Y Y Y (by omega) ?_)
      | (show AOp _ _ ⟨_, .binOp _ _ _ _ _, _, _, _, _⟩ _ _ _; first | refine Aw hG Y Y Y Y Y (by omega) ?_ | refine Av hG Y Y Y Y Y (by omega) ?_ | (refine Au hG Y Y Y Y Y (fun h => ?_) (fun h => ?_)))
      | (show AOp _ _ ⟨_, .convert _ _ _, _, _, _, _⟩ _ _ _; first | refine Bz hG Y Y Y Y Y (by omega) ?_ | refine r_cv_u8 hG Y Y Y Y Y (by omega) ?_ | refine Bh hG Y Y Y Y Y ?_)
      | (show AOp _ _ ⟨_, .pick _ _ _, _, _, _, _⟩ _ _ _; refine B2 hG Y Y Y ?_)
      | (show AOp _ _ ⟨_, .buildSlice _ _ _, _, _, _, _⟩ _ _ _; first | refine r_mk (sz := 1) hG Y Y Y Y Y Y Y ?_)
      | (show AOp _ _ ⟨_, .call ⟨.builtin .append, _, _⟩, _, _, _, _⟩ _ _ _; first | refine Bt (sz := 1) (xs := []) hG Y Y Y Y Y Y Y ⟨_, Y⟩ Y Y Y Y Y Y Y (by first | omega | (simp; omega)) (fun k => ?_) | refine Bv 0 hG Y Y Y Y Y Y Y ⟨_, Y⟩ Y Y Y Y Y (by first | omega | (simp only [List.length_append, List.length_cons, List.length_nil]; omega)) (fun k => ?_) | fail)
      | refine r_q hG Y Y Y ?_))
    | (show AL _ _ _ _ _ _ _ _; first | refine A9 Y Y Y ?_ | (refine Al ?_; first | show AW _ _ _ _ _ _ | show ∃ x', _ < _ ∧ _)) | (show AW _ _ (.seq _ _) _ _ _; refine Af ?_; intro Q1) | (show AW _ _ (.region _ _ false) _ _ _; refine Ae ?_; intro O1) | (show AW _ _ (.cond _ _ _) _ _ _; first | refine Ai Y ?_ | refine Aj Y ?_) | (show AW _ _ (.skip) _ _ _; refine Ag ?_; first | show AW _ _ _ _ _ _ | show ∃ x', _ < _ ∧ _) | (show AW _ _ (.goto _) _ _ _; refine Bm ?_; try dsimp only [Ao, Aa, Am, Ab]) | (show AW _ _ (.ret) _ _ _; refine Ar ?_; try dsimp only [Ao, Aa, Am, Ab]) | fail)
    · obtain ⟨j, rfl⟩ : ∃ j, i = j + 1 := ⟨i - 1, by omega⟩
      have hpl2 : pre.length + (j + 1) = n.toNat := by have := congrArg List.length hp; simpa [be_length] using this
      have hbyte : T.int IntKind.u8 (IntKind.u8.wrap ((v : Int) / 2 ^ (min (8 * (((j + 1 : Nat) : Int) - 1)).toNat IntKind.u64.bits))) = bT (UInt8.ofNat (v.toNat / 2 ^ (8 * j))) := by
        have : min (8 * (((j + 1 : Nat) : Int) - 1)).toNat IntKind.u64.bits = 8 * j := by simp [IntKind.bits]; omega
        rw [this]
        obtain ⟨v, rfl⟩ := Int.eq_ofNat_of_zero_le hv
        exact bT_of _ _ (by simp)
      refine Ad rfl (Bv 0 (ys := [UInt8.ofNat (v.toNat / 2 ^ (8 * j))]) hG rfl rfl rfl rfl rfl rfl rfl ⟨_, rfl⟩ rfl rfl rfl rfl (congrArg (fun t => [t]) hbyte) (by simp; omega) (fun k' => ?_))
      repeat' (first
    | ((show AL _ _ _ _ _ _ _ _; refine Ad Y ?_); (first
      | (show AOp _ _ ⟨_, .move _, _, _, _, _⟩ _ _ _; refine Aq hG Y Y ?_)
      | (show AOp _ _ ⟨_, .assign _, _, _, _, _⟩ _ _ _; refine Az hG Y Y ?_)
      | (show AOp _ _ ⟨_, .binOp .sub _ _ _ _, _, _, _, _⟩ _ _ _; first | refine A3 hG Y Y Y Y Y (by omega) ?_)
      | (show AOp _ _ ⟨_, .binOp .mul _ _ _ _, _, _, _, _⟩ _ _ _; first | refine A3 hG Y Y Y Y Y (by omega) ?_)
      | (show AOp _ _ ⟨_, .binOp .shr _ _ _ _, _, _, _, _⟩ _ _ _; refine r_shr hG Y Y Y Y (by omega) ?_)
      | (show AOp _ _ ⟨_, .binOp _ _ _ _ _, _, _, _, _⟩ _ _ _; first | refine Aw hG Y Y Y Y Y (by omega) ?_ | refine Av hG Y Y Y Y Y (by omega) ?_ | (refine Au hG Y Y Y Y Y (fun h => ?_) (fun h => ?_)))
      | (show AOp _ _ ⟨_, .convert _ _ _, _, _, _, _⟩ _ _ _; first | refine Bz hG Y Y Y Y Y (by omega) ?_ | refine r_cv_u8 hG Y Y Y Y Y (by omega) ?_ | refine Bh hG Y Y Y Y Y ?_)
      | (show AOp _ _ ⟨_, .pick _ _ _, _, _, _, _⟩ _ _ _; refine B2 hG Y Y Y ?_)
      | (show AOp _ _ ⟨_, .buildSlice _ _ _, _, _, _, _⟩ _ _ _; first | refine r_mk (sz := 1) hG Y Y Y Y Y Y Y ?_)
      | (show AOp _ _ ⟨_, .call ⟨.builtin .append, _, _⟩, _, _, _, _⟩ _ _ _; first | refine Bt (sz := 1) (xs := []) hG Y Y Y Y Y Y Y ⟨_, Y⟩ Y Y Y Y Y Y Y (by first | omega | (simp; omega)) (fun k => ?_) | refine Bv 0 hG Y Y Y Y Y Y Y ⟨_, Y⟩ Y Y Y Y Y (by first | omega | (simp only [List.length_append, List.length_cons, List.length_nil]; omega)) (fun k => ?_) | fail)
      | refine r_q hG Y Y Y ?_))
    | (show AL _ _ _ _ _ _ _ _; first | refine A9 Y Y Y ?_ | (refine Al ?_; first | show AW _ _ _ _ _ _ | show ∃ x', _ < _ ∧ _)) | (show AW _ _ (.seq _ _) _ _ _; refine Af ?_; intro Q1) | (show AW _ _ (.region _ _ false) _ _ _; refine Ae ?_; intro O1) | (show AW _ _ (.cond _ _ _) _ _ _; first | refine Ai Y ?_ | refine Aj Y ?_) | (show AW _ _ (.skip) _ _ _; refine Ag ?_; first | show AW _ _ _ _ _ _ | show ∃ x', _ < _ ∧ _) | (show AW _ _ (.goto _) _ _ _; refine Bm ?_; try dsimp only [Ao, Aa, Am, Ab]) | (show AW _ _ (.ret) _ _ _; refine Ar ?_; try dsimp only [Ao, Aa, Am, Ab]) | fail)
      refine ⟨rfl, ⟨hn, j, pre ++ [UInt8.ofNat (v.toNat / 2 ^ (8 * j))], k', by omega, by rw [List.append_assoc]; exact hp⟩, by dsimp only; omega, ?_, .refl _⟩
      exact .cons rfl (.consW rfl (.eq (by simp)) (.consW rfl (.int (by simp)) (.nil _)))
    · have : i = 0 := by omega
      subst this
      simp only [be, List.append_nil] at hp
      exact ret_owns 0 (A1 rfl A0) rfl (by rw [hp, putI, if_pos hn]) rfl
  · intro key
    repeat' (first
    | ((show AL _ _ _ _ _ _ _ _; refine Ad Y ?_); (first
      | (show AOp _ _ ⟨_, .move _, _, _, _, _⟩ _ _ _; refine Aq hG Y Y ?_)
      | (show AOp _ _ ⟨_, .assign _, _, _, _, _⟩ _ _ _; refine Az hG Y Y ?_)
      | (show AOp _ _ ⟨_, .binOp .sub _ _ _ _, _, _, _, _⟩ _ _ _; first | refine A3 hG Y Y Y Y Y (by omega) ?_)
      | (show AOp _ _ ⟨_, .binOp .mul _ _ _ _, _, _, _, _⟩ _ _ _; first | refine A3 hG Y Y Y Y Y (by omega) ?_)
      | (show AOp _ _ ⟨_, .binOp .shr _ _ _ _, _, _, _, _⟩ _ _ _; refine r_shr hG Y Y Y Y (by omega) ?_)
      | (show AOp _ _ ⟨_, .binOp _ _ _ _ _, _, _, _, _⟩ _ _ _; first | refine Aw hG Y Y Y Y Y (by omega) ?_ | refine Av hG Y Y Y Y Y (by omega) ?_ | (refine Au hG Y Y Y Y Y (fun h => ?_) (fun h => ?_)))
      | (show AOp _ _ ⟨_, .convert _ _ _, _, _, _, _⟩ _ _ _; first | refine Bz hG Y Y Y Y Y (by omega) ?_ | refine r_cv_u8 hG Y Y Y Y Y (by omega) ?_ | refine Bh hG Y Y Y Y Y ?_)
      | (show AOp _ _ ⟨_, .pick _ _ _, _, _, _, _⟩ _ _ _; refine B2 hG Y Y Y ?_)
      | (show AOp _ _ ⟨_, .buildSlice _ _ _, _, _, _, _⟩ _ _ _; first | refine r_mk (sz := 1) hG Y Y Y Y Y Y Y ?_)
      | (show AOp _ _ ⟨_, .call ⟨.builtin .append, _, _⟩, _, _, _, _⟩ _ _ _; first | refine Bt (sz := 1) (xs := []) hG Y Y Y Y Y Y Y ⟨_, Y⟩ Y Y Y Y Y Y Y (by first | omega | (simp; omega)) (fun k => ?_) | refine Bv 0 hG Y Y Y Y Y Y Y ⟨_, Y⟩ Y Y Y Y Y (by first | omega | (simp only [List.length_append, List.length_cons, List.length_nil]; omega)) (fun k => ?_) | fail)
      | (show AOp _ _ ⟨_, .call ⟨.value _, _, _⟩, _, _, _, _⟩ _ _ _; first | (refine r_owns Y Y Y Y Y (by apply clone_b <;> (first | assumption | omega | exact Ac _ _ | exact Ah _ | exact Ak _ _ | exact As _ | rfl | (simp; omega))) (fun k => ?_)) | (have := kk; clear this; refine A4 Y Y Y Y Y (Owns.pure (by apply clone_b <;> (first | assumption | omega | exact Ac _ _ | exact Ah _ | exact Ak _ _ | exact As _ | rfl | (simp; omega)))) ?_) | fail)
      | refine r_q hG Y Y Y ?_))
    | (show AL _ _ _ _ _ _ _ _; first | refine A9 Y Y Y ?_ | (refine Al ?_; first | show AW _ _ _ _ _ _ | show ∃ x', _ < _ ∧ _)) | (show AW _ _ (.seq _ _) _ _ _; refine Af ?_; intro Q1) | (show AW _ _ (.region _ _ false) _ _ _; refine Ae ?_; intro O1) | (show AW _ _ (.cond _ _ _) _ _ _; first | refine Ai Y ?_ | refine Aj Y ?_) | (show AW _ _ (.skip) _ _ _; refine Ag ?_; first | show AW _ _ _ _ _ _ | show ∃ x', _ < _ ∧ _) | (show AW _ _ (.goto _) _ _ _; refine Bm ?_; try dsimp only [Ao, Aa, Am, Ab]) | (show AW _ _ (.ret) _ _ _; refine Ar ?_; try dsimp only [Ao, Aa, Am, Ab]) | fail)
    · exact ret_owns 0 (A1 rfl A0) rfl (by rw [putI, if_neg (by omega), List.append_nil]) rfl
    · exact ret_owns 0 (A1 rfl A0) rfl (by rw [putI, if_neg (by omega), List.append_nil]) rfl
    · refine aw_label ?_
      show AW _ _ _ _ _ _
      refine aw_forget ?_ (key ⟨by omega, n.toNat, [], k, by omega, rfl⟩)
      exact .cons rfl (.consW rfl (.eq (by simp)) (.consW rfl (.int (by simp; omega)) (.nil _)))

def beV (l : List UInt8) : Nat := l.foldl (fun a x => a * 256 + x.toNat) 0
theorem beV_snoc (l : List UInt8) (x : UInt8) : beV (l ++ [x]) = beV l * 256 + x.toNat := by simp [beV]
theorem beV_lt : ∀ n (l : List UInt8), l.length = n → beV l < 2 ^ (8 * n) := by
  intro n
  induction n with
  | zero => intro l h; simp at h; subst h; simp [beV]
  | succ n ih =>
    intro l h
    have hne : l ≠ [] := by intro h0; subst h0; simp at h
    have h1 : l = l.dropLast ++ [l.getLast hne] := (List.dropLast_concat_getLast hne).symm
    rw [h1, beV_snoc]
    have h2 := ih l.dropLast (by simp [h])
    have h3 : (l.getLast hne).toNat < 256 := UInt8.toNat_lt _
    have h4 : 2 ^ (8 * (n + 1)) = 2 ^ (8 * n) * 256 := by rw [show 8 * (n + 1) = 8 * n + 8 by omega, Nat.pow_add]
    rw [h4]; omega
theorem or_byte (v x : Nat) (hv : v * 256 < 2 ^ 64) (hx : x < 256) :
    IntKind.u64.wrap ((BitVec.ofInt IntKind.u64.bits (IntKind.u64.wrap ((v : Int) * 2 ^ (min (Int.toNat 8) IntKind.u64.bits))) ||| BitVec.ofInt IntKind.u64.bits (x : Int)).toNat) = ((v * 256 + x : Nat) : Int) := by
  have h8 : (2 : Int) ^ (min (Int.toNat 8) IntKind.u64.bits) = 256 := by simp [IntKind.bits]
  rw [h8, u64_in (n := (v : Int) * 256) (by omega) (by omega)]
  have e1 : BitVec.ofInt IntKind.u64.bits ((v : Int) * 256) = BitVec.ofNat 64 (v * 256) := by
    show BitVec.ofInt 64 _ = _
    rw [show (v : Int) * 256 = ((v * 256 : Nat) : Int) by simp, BitVec.ofInt_natCast]
  have e2 : BitVec.ofInt IntKind.u64.bits (x : Int) = BitVec.ofNat 64 x := by
    show BitVec.ofInt 64 _ = _
    rw [BitVec.ofInt_natCast]
  rw [e1, e2]
  have e3 : (BitVec.ofNat 64 (v * 256) ||| BitVec.ofNat 64 x).toNat = v * 256 + x := by
    rw [BitVec.toNat_or, BitVec.toNat_ofNat, BitVec.toNat_ofNat, Nat.mod_eq_of_lt hv, Nat.mod_eq_of_lt (by omega)]
    have := Nat.two_pow_add_eq_or_of_lt (i := 8) hx v
    rw [Nat.mul_comm v 256]
    exact this.symm
  have e4 : ((BitVec.ofNat 64 (v * 256) ||| BitVec.ofNat 64 x).toNat : Int) = ((v * 256 + x : Nat) : Int) := by rw [e3]
  refine (congrArg IntKind.u64.wrap e4).trans ?_
  rw [u64_in (by omega) (by omega)]
def takeE (b : List UInt8) (n : Int) : Nat × Int := if n < 0 ∨ 8 < n then (0, 1) else if (b.length : Int) < n then (0, 3) else (beV (b.take n.toNat), 0)
theorem take_step (b : List UInt8) (i : Nat) (hi : i < b.length) (h8 : i < 8) :
    IntKind.u64.wrap ((BitVec.ofInt IntKind.u64.bits (IntKind.u64.wrap ((beV (b.take i) : Int) * 2 ^ (min (Int.toNat 8) IntKind.u64.bits))) ||| BitVec.ofInt IntKind.u64.bits ((b.getD i default).toNat : Int)).toNat) = ((beV (b.take (i + 1)) : Nat) : Int) := by
  have hlt : beV (b.take i) < 2 ^ (8 * i) := beV_lt i _ (by simp; omega)
  have hpow : 2 ^ (8 * i) ≤ 2 ^ 56 := Nat.pow_le_pow_right (by omega) (by omega)
  have htk : b.take (i + 1) = b.take i ++ [b.getD i default] := by rw [List.take_succ_eq_append_getElem hi]; simp [List.getElem?_eq_getElem hi]
  rw [htk, beV_snoc]
  exact or_byte _ _ (by omega) (b.getD i default).toNat_lt

structure TakeX (b : List UInt8) (n : Int) where
  i : Nat
  hn : 0 ≤ n ∧ n ≤ 8 ∧ n ≤ b.length
  hi : i ≤ n.toNat
theorem num_Take {x : T} {b : List UInt8} {n : Int} (hx : bytesT x = some b) : Pure Try.prog 48 [x, .int .i64 n] (.tup [.int .u64 (takeE b n).1, .int .i64 (takeE b n).2]) := by
  refine Pure.weak (us := [sT b, .int .i64 n]) ?_ (wk2 (bytesT_wk hx) (.refl _))
  intro off
  refine A5 (N := 33) (rs := [.tmp 4, .tmp 5]) hG Try.func48 rfl rfl rfl rfl rfl ?_
  repeat' (first
    | ((show AL _ _ _ _ _ _ _ _; refine Ad Y ?_); (first
      | (show AOp _ _ ⟨_, .move _, _, _, _, _⟩ _ _ _; refine Aq hG Y Y ?_)
      | (show AOp _ _ ⟨_, .assign _, _, _, _, _⟩ _ _ _; refine Az hG Y Y ?_)
      | (show AOp _ _ ⟨_, .call ⟨.builtin .len, _, _⟩, _, _, _, _⟩ _ _ _; first | refine Bc hG Y Y Y Y ?_ | refine Bj hG Y Y Y Y Y ?_)
      | (show AOp _ _ ⟨_, .binOp .add _ _ _ _, _, _, _, _⟩ _ _ _; first | refine A3 hG Y Y Y Y Y (by omega) ?_)
      | (show AOp _ _ ⟨_, .binOp .shl _ _ _ _, _, _, _, _⟩ _ _ _; refine r_shl hG Y Y Y Y (by omega) ?_)
      | (show AOp _ _ ⟨_, .binOp _ _ _ _ _, _, _, _, _⟩ _ _ _; first | refine Aw hG Y Y Y Y Y (by omega) ?_ | refine Av hG Y Y Y Y Y (by omega) ?_ | (refine Au hG Y Y Y Y Y (fun h => ?_) (fun h => ?_)) | refine r_bin' hG Y Y Y ?_)
      | (show AOp _ _ ⟨_, .load _ _, _, _, _, _⟩ _ _ _; first | refine Br hG Y Y Y ?_ | refine Ap 0 hG Y Y Y Y ?_)
      | (show AOp _ _ ⟨_, .indexAddr _ _ _, _, _, _, _⟩ _ _ _; first | refine Bp hG Y Y Y Y Y Y Y (by omega) ?_ | refine Bq hG Y Y Y Y Y Y Y (by omega) ?_ | refine r_idx hG Y Y ?_)
      | (show AOp _ _ ⟨_, .convert _ _ _, _, _, _, _⟩ _ _ _; first | refine r_cv8 hG Y Y Y Y Y Y ?_ | refine Bz hG Y Y Y Y Y (by omega) ?_ | refine Bh hG Y Y Y Y Y ?_)
      | (show AOp _ _ ⟨_, .pick _ _ _, _, _, _, _⟩ _ _ _; refine B2 hG Y Y Y ?_)
      | refine r_q hG Y Y Y ?_))
    | (show AL _ _ _ _ _ _ _ _; first | refine A9 Y Y Y ?_ | (refine Al ?_; first | show AW _ _ _ _ _ _ | show ∃ x', _ < _ ∧ _)) | (show AW _ _ (.seq _ _) _ _ _; refine Af ?_; intro Q1) | (show AW _ _ (.region _ _ false) _ _ _; refine Ae ?_; intro O1) | (show AW _ _ (.cond _ _ _) _ _ _; first | refine Ai Y ?_ | refine Aj Y ?_) | (show AW _ _ (.skip) _ _ _; refine Ag ?_; first | show AW _ _ _ _ _ _ | show ∃ x', _ < _ ∧ _) | (show AW _ _ (.block _ _) _ _ _; refine Ax ?_; intro Q1) | (show AW _ _ (.goto _) _ _ _; refine Bm ?_; try dsimp only [Ao, Aa, Am, Ab]) | (show AW _ _ (.ret) _ _ _; refine Ar ?_; try dsimp only [Ao, Aa, Am, Ab]) | fail)
  refine aw_scope' 0 rfl (X := TakeX b n) (fun x => [(0, sT b), (1, .int .i64 n), (4, .int .u64 (beV (b.take x.i))), (6, .int .i64 x.i)]) (fun x => ⟨[], [], off, none⟩) (fun x => n.toNat - x.i) ?_ ?_
  · rintro ⟨i, hn, hi⟩
    dsimp only
    repeat' (first
    | ((show AL _ _ _ _ _ _ _ _; refine Ad Y ?_); (first
      | (show AOp _ _ ⟨_, .move _, _, _, _, _⟩ _ _ _; refine Aq hG Y Y ?_)
      | (show AOp _ _ ⟨_, .assign _, _, _, _, _⟩ _ _ _; refine Az hG Y Y ?_)
      | (show AOp _ _ ⟨_, .call ⟨.builtin .len, _, _⟩, _, _, _, _⟩ _ _ _; first | refine Bc hG Y Y Y Y ?_ | refine Bj hG Y Y Y Y Y ?_)
      | (show AOp _ _ ⟨_, .binOp .add _ _ _ _, _, _, _, _⟩ _ _ _; first | refine A3 hG Y Y Y Y Y (by omega) ?_)
      | (show AOp _ _ ⟨_, .binOp .shl _ _ _ _, _, _, _, _⟩ _ _ _; refine r_shl hG Y Y Y Y (by omega) ?_)
      | (show AOp _ _ ⟨_, .binOp _ _ _ _ _, _, _, _, _⟩ _ _ _; first | refine Aw hG Y Y Y Y Y (by omega) ?_ | refine Av hG Y Y Y Y Y (by omega) ?_ | (refine Au hG Y Y Y Y Y (fun h => ?_) (fun h => ?_)) | refine r_bin' hG Y Y Y ?_)
      | (show AOp _ _ ⟨_, .load _ _, _, _, _, _⟩ _ _ _; first | refine Br hG Y Y Y ?_ | refine Ap 0 hG Y Y Y Y ?_)
      | (show AOp _ _ ⟨_, .indexAddr _ _ _, _, _, _, _⟩ _ _ _; first | refine Bp hG Y Y Y Y Y Y Y (by omega) ?_ | refine Bq hG Y Y Y Y Y Y Y (by omega) ?_ | refine r_idx hG Y Y ?_)
      | (show AOp _ _ ⟨_, .convert _ _ _, _, _, _, _⟩ _ _ _; first | refine r_cv8 hG Y Y Y Y Y Y ?_ | refine Bz hG Y Y Y Y Y (by omega) ?_ | refine Bh hG Y Y Y Y Y ?_)
      | (show AOp _ _ ⟨_, .pick _ _ _, _, _, _, _⟩ _ _ _; refine B2 hG Y Y Y ?_)
      | refine r_q hG Y Y Y ?_))
    | (show AL _ _ _ _ _ _ _ _; first | refine A9 Y Y Y ?_ | (refine Al ?_; first | show AW _ _ _ _ _ _ | show ∃ x', _ < _ ∧ _)) | (show AW _ _ (.seq _ _) _ _ _; refine Af ?_; intro Q1) | (show AW _ _ (.region _ _ false) _ _ _; refine Ae ?_; intro O1) | (show AW _ _ (.cond _ _ _) _ _ _; first | refine Ai Y ?_ | refine Aj Y ?_) | (show AW _ _ (.skip) _ _ _; refine Ag ?_; first | show AW _ _ _ _ _ _ | show ∃ x', _ < _ ∧ _) | (show AW _ _ (.block _ _) _ _ _; refine Ax ?_; intro Q1) | (show AW _ _ (.goto _) _ _ _; refine Bm ?_; try dsimp only [Ao, Aa, Am, Ab]) | (show AW _ _ (.ret) _ _ _; refine Ar ?_; try dsimp only [Ao, Aa, Am, Ab]) | fail)
    · refine ⟨rfl, ⟨i + 1, hn, by omega⟩, by dsimp only; omega, ?_, .refl _⟩
      exact .cons rfl (.cons rfl (.consW rfl (.int (take_step b i (by omega) (by omega))) (.consW rfl (.int (by simp)) (.nil _))))
    · refine Bb (A1 rfl (A1 rfl A0)) (.eq ?_) rfl
      have : i = n.toNat := by omega
      subst this
      rw [takeE, if_neg (by omega), if_neg (by omega)]; rfl
  · intro key
    repeat' (first
    | ((show AL _ _ _ _ _ _ _ _; refine Ad Y ?_); (first
      | (show AOp _ _ ⟨_, .move _, _, _, _, _⟩ _ _ _; refine Aq hG Y Y ?_)
      | (show AOp _ _ ⟨_, .assign _, _, _, _, _⟩ _ _ _; refine Az hG Y Y ?_)
      | (show AOp _ _ ⟨_, .call ⟨.builtin .len, _, _⟩, _, _, _, _⟩ _ _ _; first | refine Bc hG Y Y Y Y ?_ | refine Bj hG Y Y Y Y Y ?_)
      | (show AOp _ _ ⟨_, .binOp .add _ _ _ _, _, _, _, _⟩ _ _ _; first | refine A3 hG Y Y Y Y Y (by omega) ?_)
      | (show AOp _ _ ⟨_, .binOp .shl _ _ _ _, _, _, _, _⟩ _ _ _; refine r_shl hG Y Y Y Y (by omega) ?_)
      | (show AOp _ _ ⟨_, .binOp _ _ _ _ _, _, _, _, _⟩ _ _ _; first | refine Aw hG Y Y Y Y Y (by omega) ?_ | refine Av hG Y Y Y Y Y (by omega) ?_ | (refine Au hG Y Y Y Y Y (fun h => ?_) (fun h => ?_)) | refine r_bin' hG Y Y Y ?_)
      | (show AOp _ _ ⟨_, .load _ _, _, _, _, _⟩ _ _ _; first | refine Br hG Y Y Y ?_ | refine Ap 0 hG Y Y Y Y ?_)
      | (show AOp _ _ ⟨_, .indexAddr _ _ _, _, _, _, _⟩ _ _ _; first | refine Bp hG Y Y Y Y Y Y Y (by omega) ?_ | refine Bq hG Y Y Y Y Y Y Y (by omega) ?_ | refine r_idx hG Y Y ?_)
      | (show AOp _ _ ⟨_, .convert _ _ _, _, _, _, _⟩ _ _ _; first | refine r_cv8 hG Y Y Y Y Y Y ?_ | refine Bz hG Y Y Y Y Y (by omega) ?_ | refine Bh hG Y Y Y Y Y ?_)
      | (show AOp _ _ ⟨_, .pick _ _ _, _, _, _, _⟩ _ _ _; refine B2 hG Y Y Y ?_)
      | refine r_q hG Y Y Y ?_))
    | (show AL _ _ _ _ _ _ _ _; first | refine A9 Y Y Y ?_ | (refine Al ?_; first | show AW _ _ _ _ _ _ | show ∃ x', _ < _ ∧ _)) | (show AW _ _ (.seq _ _) _ _ _; refine Af ?_; intro Q1) | (show AW _ _ (.region _ _ false) _ _ _; refine Ae ?_; intro O1) | (show AW _ _ (.cond _ _ _) _ _ _; first | refine Ai Y ?_ | refine Aj Y ?_) | (show AW _ _ (.skip) _ _ _; refine Ag ?_; first | show AW _ _ _ _ _ _ | show ∃ x', _ < _ ∧ _) | (show AW _ _ (.block _ _) _ _ _; refine Ax ?_; intro Q1) | (show AW _ _ (.goto _) _ _ _; refine Bm ?_; try dsimp only [Ao, Aa, Am, Ab]) | (show AW _ _ (.ret) _ _ _; refine Ar ?_; try dsimp only [Ao, Aa, Am, Ab]) | fail)
    · exact Bb (A1 rfl (A1 rfl A0)) (.eq (by rw [takeE, if_pos (by omega)]; rfl)) rfl
    · exact Bb (A1 rfl (A1 rfl A0)) (.eq (by rw [takeE, if_pos (by omega)]; rfl)) rfl
    · exact Bb (A1 rfl (A1 rfl A0)) (.eq (by rw [takeE, if_neg (by omega), if_pos (by omega)]; rfl)) rfl
    · refine aw_label ?_
      show AW _ _ _ _ _ _
      refine aw_forget ?_ (key ⟨0, ⟨by omega, by omega, by omega⟩, by omega⟩)
      exact .cons rfl (.cons rfl (.consW rfl (.int (by simp [beV])) (.consW rfl (.int rfl) (.nil _))))
end Go.Proofs.Ytholeicgmkjadaa
namespace Go.Proofs.Ytholeicgmkjadaa
open Go.Ts
attribute [local irreducible] Go.Ts.AW Go.Ts.AOps Go.Ts.AL Go.Ts.AOp Go.Ts.ACalls Go.Ts.DL
theorem grow_nil {n : Int} (hn : 0 ≤ n ∧ n ≤ 4294967296) : Owns Try.prog 79 [.nilsl, .int .i64 n] 1 [] := by
  intro off
  refine A5 (N := 27) (rs := [.tmp 4]) hG Try.func79 rfl rfl rfl rfl rfl ?_
  repeat' (first
    | ((show AL _ _ _ _ _ _ _ _; refine Ad Y ?_); (first
      | (show AOp _ _ ⟨_, .move _, _, _, _, _⟩ _ _ _; refine Aq hG Y Y ?_)
      | (show AOp _ _ ⟨_, .assign _, _, _, _, _⟩ _ _ _; refine Az hG Y Y ?_)
      | (show AOp _ _ ⟨_, .call ⟨.builtin .len, _, _⟩, _, _, _, _⟩ _ _ _; first | refine Bc hG Y Y Y Y ?_ | refine Bj hG Y Y Y Y Y ?_)
      | (show AOp _ _ ⟨_, .binOp .sub _ _ _ _, _, _, _, _⟩ _ _ _; first | refine A3 hG Y Y Y Y Y (by omega) ?_)
      | (show AOp _ _ ⟨_, .binOp _ _ _ _ _, _, _, _, _⟩ _ _ _; first | refine Aw hG Y Y Y Y Y (by omega) ?_ | refine Av hG Y Y Y Y Y (by omega) ?_ | (refine Au hG Y Y Y Y Y (fun h => ?_) (fun h => ?_)))
      | (show AOp _ _ ⟨_, .slice _ _ _ _ _, _, _, _, _⟩ _ _ _; first | refine r_sl_hin hG Y Y Y Y Y Y Y (by omega) ?_ | refine r_sl_hi hG Y Y Y Y Y Y Y (by omega) ?_ | refine op_cut0 hG Y Y Y Y Y Y Y Y Y Y ?_ | refine r_sl hG Y Y ?_)
      | (show AOp _ _ ⟨_, .call ⟨.builtin .append, _, _⟩, _, _, _, _⟩ _ _ _; first | refine Bt (sz := 1) (xs := []) hG Y Y Y Y Y Y Y ⟨_, Y⟩ Y Y Y Y Y Y Y (by first | omega | (simp; omega)) (fun k => ?_) | refine Bv 0 hG Y Y Y Y Y Y Y ⟨_, Y⟩ Y Y Y Y Y (by first | omega | (simp only [List.length_append, List.length_cons, List.length_nil]; omega)) (fun k => ?_) | fail)
      | refine r_q hG Y Y Y ?_))
    | (show AL _ _ _ _ _ _ _ _; first | refine A9 Y Y Y ?_ | (refine Al ?_; first | show AW _ _ _ _ _ _ | show ∃ x', _ < _ ∧ _)) | (show AW _ _ (.seq _ _) _ _ _; refine Af ?_; intro Q1) | (show AW _ _ (.region _ _ false) _ _ _; refine Ae ?_; intro O1) | (show AW _ _ (.cond _ _ _) _ _ _; first | refine Ai Y ?_ | refine Aj Y ?_) | (show AW _ _ (.skip) _ _ _; refine Ag ?_; first | show AW _ _ _ _ _ _ | show ∃ x', _ < _ ∧ _) | (show AW _ _ (.ret) _ _ _; refine Ar ?_; try dsimp only [Ao, Aa, Am, Ab]) | fail)
  · refine Ad rfl (op_zeros hG rfl rfl rfl rfl rfl rfl rfl rfl rfl rfl rfl (by omega) (fun i cap hc => ?_))
    repeat' (first
    | ((show AL _ _ _ _ _ _ _ _; refine Ad Y ?_); (first
      | (show AOp _ _ ⟨_, .move _, _, _, _, _⟩ _ _ _; refine Aq hG Y Y ?_)
      | (show AOp _ _ ⟨_, .assign _, _, _, _, _⟩ _ _ _; refine Az hG Y Y ?_)
      | (show AOp _ _ ⟨_, .call ⟨.builtin .len, _, _⟩, _, _, _, _⟩ _ _ _; first | refine Bc hG Y Y Y Y ?_ | refine Bj hG Y Y Y Y Y ?_)
      | (show AOp _ _ ⟨_, .binOp .sub _ _ _ _, _, _, _, _⟩ _ _ _; first | refine A3 hG Y Y Y Y Y (by omega) ?_)
      | (show AOp _ _ ⟨_, .binOp _ _ _ _ _, _, _, _, _⟩ _ _ _; first | refine Aw hG Y Y Y Y Y (by omega) ?_ | refine Av hG Y Y Y Y Y (by omega) ?_ | (refine Au hG Y Y Y Y Y (fun h => ?_) (fun h => ?_)))
      | (show AOp _ _ ⟨_, .slice _ _ _ _ _, _, _, _, _⟩ _ _ _; first | refine r_sl_hin hG Y Y Y Y Y Y Y (by omega) ?_ | refine r_sl_hi hG Y Y Y Y Y Y Y (by omega) ?_ | refine op_cut0 hG Y Y Y Y Y Y Y Y Y Y ?_ | refine r_sl hG Y Y ?_)
      | (show AOp _ _ ⟨_, .call ⟨.builtin .append, _, _⟩, _, _, _, _⟩ _ _ _; first | refine Bt (sz := 1) (xs := []) hG Y Y Y Y Y Y Y ⟨_, Y⟩ Y Y Y Y Y Y Y (by first | omega | (simp; omega)) (fun k => ?_) | refine Bv 0 hG Y Y Y Y Y Y Y ⟨_, Y⟩ Y Y Y Y Y (by first | omega | (simp only [List.length_append, List.length_cons, List.length_nil]; omega)) (fun k => ?_) | fail)
      | refine r_q hG Y Y Y ?_))
    | (show AL _ _ _ _ _ _ _ _; first | refine A9 Y Y Y ?_ | (refine Al ?_; first | show AW _ _ _ _ _ _ | show ∃ x', _ < _ ∧ _)) | (show AW _ _ (.seq _ _) _ _ _; refine Af ?_; intro Q1) | (show AW _ _ (.region _ _ false) _ _ _; refine Ae ?_; intro O1) | (show AW _ _ (.cond _ _ _) _ _ _; first | refine Ai Y ?_ | refine Aj Y ?_) | (show AW _ _ (.skip) _ _ _; refine Ag ?_; first | show AW _ _ _ _ _ _ | show ∃ x', _ < _ ∧ _) | fail)
    refine aw_room 0 4 rfl rfl rfl rfl (fun k => ?_)
    exact Ar (ret_owns 0 (A1 rfl A0) rfl rfl rfl)
  · exact ret_owns0 (sz := 1) (A1 rfl A0) rfl rfl rfl rfl

def lettersOf : List T → Option (List (List UInt8))
  | [] => some []
  | t :: r => match bytesT t, lettersOf r with
    | some b, some s => some (b :: s)
    | _, _ => none
theorem bytesT_scalar {t : T} {b : List UInt8} (h : bytesT t = some b) : t.scalar = true := by
  unfold bytesT at h
  split at h
  · rfl
  · rfl
  · cases h
theorem lettersOf_wk : ∀ {xs : List T} {l : List (List UInt8)}, lettersOf xs = some l → xs.length = l.length ∧ ∀ (i : Nat) (x : T) (b : List UInt8), xs[i]? = some x → l[i]? = some b → x.scalar = true ∧ Wk x (sT b)
  | [], l, h => by simp [lettersOf] at h; subst h; exact ⟨rfl, fun i x b h => by simp at h⟩
  | t :: xs, l, h => by
    simp only [lettersOf] at h
    split at h
    · rename_i b s hb hs
      injection h with h; subst h
      obtain ⟨h1, h2⟩ := lettersOf_wk hs
      refine ⟨by simp [h1], fun i x c hx hc => ?_⟩
      cases i with
      | zero => simp at hx hc; subst hx; subst hc; exact ⟨bytesT_scalar hb, bytesT_wk hb⟩
      | succ i => exact h2 i x c (by simpa using hx) (by simpa using hc)
    · cases h
def lettersT : T → Option (List (List UInt8))
  | .nilsl => some []
  | .sl 1 _ xs => lettersOf xs
  | _ => none
def lT (l : List (List UInt8)) : T := .sl 1 .no (l.map sT)
theorem lettersT_wk {x : T} {l : List (List UInt8)} (h : lettersT x = some l) : Wk x (lT l) := by
  unfold lettersT at h
  split at h
  · injection h with h; subst h; exact Wk.nil 1
  · rename_i own xs
    obtain ⟨h1, h2⟩ := lettersOf_wk h
    refine (Wk.own 1 own xs).trans (Wk.list (by simpa using h1) fun i x y hx hy => ?_)
    rw [List.getElem?_map] at hy
    cases hl : l[i]? with
    | none => rw [hl] at hy; cases hy
    | some b =>
      rw [hl] at hy; injection hy with hy; subst hy
      obtain ⟨h3, h4⟩ := h2 i x b hx hl
      exact ⟨h3, rfl, h4⟩
  · cases h
instance : Enc lT 1 := ⟨fun x c h => by simp [lT, T.cells] at h; subst h; rfl, fun x => rfl⟩

def total (bs : List (List UInt8)) : Nat := (bs.map List.length).sum
theorem total_snoc (bs : List (List UInt8)) (b : List UInt8) : total (bs ++ [b]) = total bs + b.length := by simp [total]
theorem total_take_le (bs : List (List UInt8)) (i : Nat) : total (bs.take i) ≤ total bs := by
  have h : total bs = total (bs.take i) + total (bs.drop i) := by
    conv => lhs; rw [← List.take_append_drop i bs]
    simp only [total, List.map_append, List.sum_append]
  omega
theorem flatten_length (bs : List (List UInt8)) : bs.flatten.length = total bs := by simp [total, List.length_flatten]
theorem take_getD {α : Type} [Inhabited α] (l : List α) (i : Nat) (h : i < l.length) : l.take (i + 1) = l.take i ++ [l.getD i default] := by
  rw [List.take_succ_eq_append_getElem h]; simp [List.getElem?_eq_getElem h]

structure CatX (bs : List (List UInt8)) where
  i : Nat
  hi : i ≤ bs.length
structure CatY (bs : List (List UInt8)) where
  i : Nat
  k : Nat
  hi : i ≤ bs.length
theorem concat_b {x : T} {bs : List (List UInt8)} (hx : lettersT x = some bs) (hb : total bs ≤ 4294967200) (hn : bs.length ≤ 4294967296) :
    Owns Try.prog 56 [x] 1 (bs.flatten.map bT) := by
  refine Owns.weak (us := [lT bs]) ?_ (wk1 (lettersT_wk hx))
  intro off
  refine A5 (N := 36) (rs := [.tmp 2]) hG Try.func56 rfl rfl rfl rfl rfl ?_
  repeat' (first
    | ((show AL _ _ _ _ _ _ _ _; refine Ad Y ?_); (first
      | (show AOp _ _ ⟨_, .move _, _, _, _, _⟩ _ _ _; refine Aq hG Y Y ?_)
      | (show AOp _ _ ⟨_, .assign _, _, _, _, _⟩ _ _ _; refine Az hG Y Y ?_)
      | (show AOp _ _ ⟨_, .call ⟨.builtin .len, _, _⟩, _, _, _, _⟩ _ _ _; first | refine Bc hG Y Y Y Y ?_ | refine Bj hG Y Y Y Y Y ?_)
      | (show AOp _ _ ⟨_, .binOp .add _ _ _ _, _, _, _, _⟩ _ _ _; first | refine A3 hG Y Y Y Y Y (by omega) ?_)
      | (show AOp _ _ ⟨_, .binOp _ _ _ _ _, _, _, _, _⟩ _ _ _; first | refine Aw hG Y Y Y Y Y (by omega) ?_ | refine Av hG Y Y Y Y Y (by omega) ?_ | (refine Au hG Y Y Y Y Y (fun h => ?_) (fun h => ?_)))
      | (show AOp _ _ ⟨_, .load _ _, _, _, _, _⟩ _ _ _; first | refine Br hG Y Y Y ?_ | refine Ap 0 hG Y Y Y Y ?_)
      | (show AOp _ _ ⟨_, .indexAddr _ _ _, _, _, _, _⟩ _ _ _; first | refine Bp hG Y Y Y Y Y Y Y (by omega) ?_ | refine Bq hG Y Y Y Y Y Y Y (by omega) ?_ | refine r_idx hG Y Y ?_)
      | (show AOp _ _ ⟨_, .call ⟨.builtin .append, _, _⟩, _, _, _, _⟩ _ _ _; first | refine Bt (sz := 1) (xs := []) hG Y Y Y Y Y Y Y ⟨_, Y⟩ Y Y Y Y Y Y Y (by first | omega | (simp; omega)) (fun k => ?_) | refine Bv 0 hG Y Y Y Y Y Y Y ⟨_, Y⟩ Y Y Y Y Y (by first | omega | (simp only [List.length_append, List.length_cons, List.length_nil]; omega)) (fun k => ?_) | fail)
      | refine r_q hG Y Y Y ?_))
    | (show AL _ _ _ _ _ _ _ _; first | refine A9 Y Y Y ?_ | (refine Al ?_; first | show AW _ _ _ _ _ _ | show ∃ x', _ < _ ∧ _)) | (show AW _ _ (.seq _ _) _ _ _; refine Af ?_; intro Q1) | (show AW _ _ (.region _ _ false) _ _ _; refine Ae ?_; intro O1) | (show AW _ _ (.cond _ _ _) _ _ _; first | refine Ai Y ?_ | refine Aj Y ?_) | (show AW _ _ (.skip) _ _ _; refine Ag ?_; first | show AW _ _ _ _ _ _ | show ∃ x', _ < _ ∧ _) | (show AW _ _ (.block _ _) _ _ _; refine Ax ?_; intro Q1) | (show AW _ _ (.exit _) _ _ _; refine B5 ?_; first | show AW _ _ _ _ _ _ | show ∃ x', _ < _ ∧ _) | (show AW _ _ (.ret) _ _ _; refine Ar ?_; try dsimp only [Ao, Aa, Am, Ab]) | fail)
  refine aw_loop (X := CatX bs) (fun x => [(0, lT bs), (9, lT bs), (10, .int .i64 bs.length), (11, .int .i64 x.i), (3, .int .i64 (total (bs.take x.i)))]) (fun x => ⟨[], [], off, none⟩) (fun x => bs.length - x.i) ⟨0, Nat.zero_le _⟩ ?_ (.refl _) ?_
  · exact .cons rfl (.cons rfl (.consW rfl (.int (by simp)) (.consW rfl (.int rfl) (.consW rfl (.int (by simp [total])) (.nil _)))))
  rintro ⟨i, hi⟩
  dsimp only
  have hle := total_take_le bs i
  by_cases hib : i < bs.length
  · have htk := take_getD bs i hib
    have hle2 := total_take_le bs (i + 1)
    rw [htk, total_snoc] at hle2
    repeat' (first
    | ((show AL _ _ _ _ _ _ _ _; refine Ad Y ?_); (first
      | (show AOp _ _ ⟨_, .move _, _, _, _, _⟩ _ _ _; refine Aq hG Y Y ?_)
      | (show AOp _ _ ⟨_, .assign _, _, _, _, _⟩ _ _ _; refine Az hG Y Y ?_)
      | (show AOp _ _ ⟨_, .call ⟨.builtin .len, _, _⟩, _, _, _, _⟩ _ _ _; first | refine Bc hG Y Y Y Y ?_ | refine Bj hG Y Y Y Y Y ?_)
      | (show AOp _ _ ⟨_, .binOp .add _ _ _ _, _, _, _, _⟩ _ _ _; first | refine A3 hG Y Y Y Y Y (by omega) ?_)
      | (show AOp _ _ ⟨_, .binOp _ _ _ _ _, _, _, _, _⟩ _ _ _; first | refine Aw hG Y Y Y Y Y (by omega) ?_ | refine Av hG Y Y Y Y Y (by omega) ?_ | (refine Au hG Y Y Y Y Y (fun h => ?_) (fun h => ?_)))
      | (show AOp _ _ ⟨_, .load _ _, _, _, _, _⟩ _ _ _; first | refine Br hG Y Y Y ?_ | refine Ap 0 hG Y Y Y Y ?_)
      | (show AOp _ _ ⟨_, .indexAddr _ _ _, _, _, _, _⟩ _ _ _; first | refine Bp hG Y Y Y Y Y Y Y (by omega) ?_ | refine Bq hG Y Y Y Y Y Y Y (by omega) ?_ | refine r_idx hG Y Y ?_)
      | (show AOp _ _ ⟨_, .call ⟨.builtin .append, _, _⟩, _, _, _, _⟩ _ _ _; first | refine Bt (sz := 1) (xs := []) hG Y Y Y Y Y Y Y ⟨_, Y⟩ Y Y Y Y Y Y Y (by first | omega | (simp; omega)) (fun k => ?_) | refine Bv 0 hG Y Y Y Y Y Y Y ⟨_, Y⟩ Y Y Y Y Y (by first | omega | (simp only [List.length_append, List.length_cons, List.length_nil]; omega)) (fun k => ?_) | fail)
      | refine r_q hG Y Y Y ?_))
    | (show AL _ _ _ _ _ _ _ _; first | refine A9 Y Y Y ?_ | (refine Al ?_; first | show AW _ _ _ _ _ _ | show ∃ x', _ < _ ∧ _)) | (show AW _ _ (.seq _ _) _ _ _; refine Af ?_; intro Q1) | (show AW _ _ (.region _ _ false) _ _ _; refine Ae ?_; intro O1) | (show AW _ _ (.cond _ _ _) _ _ _; first | refine Ai Y ?_ | refine Aj Y ?_) | (show AW _ _ (.skip) _ _ _; refine Ag ?_; first | show AW _ _ _ _ _ _ | show ∃ x', _ < _ ∧ _) | (show AW _ _ (.block _ _) _ _ _; refine Ax ?_; intro Q1) | (show AW _ _ (.exit _) _ _ _; refine B5 ?_; first | show AW _ _ _ _ _ _ | show ∃ x', _ < _ ∧ _) | (show AW _ _ (.ret) _ _ _; refine Ar ?_; try dsimp only [Ao, Aa, Am, Ab]) | fail)
    refine ⟨⟨i + 1, by omega⟩, by dsimp only; omega, ?_, .refl _⟩
    refine .cons rfl (.cons rfl (.cons rfl (.consW rfl (.int (by simp)) (.consW rfl (.int ?_) (.nil _)))))
    show _ = ((total (bs.take (i + 1)) : Nat) : Int)
    rw [htk, total_snoc]; simp
  · obtain rfl : i = bs.length := by omega
    rw [List.take_length] at *
    repeat' (first
    | ((show AL _ _ _ _ _ _ _ _; refine Ad Y ?_); (first
      | (show AOp _ _ ⟨_, .move _, _, _, _, _⟩ _ _ _; refine Aq hG Y Y ?_)
      | (show AOp _ _ ⟨_, .assign _, _, _, _, _⟩ _ _ _; refine Az hG Y Y ?_)
      | (show AOp _ _ ⟨_, .call ⟨.builtin .len, _, _⟩, _, _, _, _⟩ _ _ _; first | refine Bc hG Y Y Y Y ?_ | refine Bj hG Y Y Y Y Y ?_)
      | (show AOp _ _ ⟨_, .binOp .add _ _ _ _, _, _, _, _⟩ _ _ _; first | refine A3 hG Y Y Y Y Y (by omega) ?_)
      | (show AOp _ _ ⟨_, .binOp _ _ _ _ _, _, _, _, _⟩ _ _ _; first | refine Aw hG Y Y Y Y Y (by omega) ?_ | refine Av hG Y Y Y Y Y (by omega) ?_ | (refine Au hG Y Y Y Y Y (fun h => ?_) (fun h => ?_)))
      | (show AOp _ _ ⟨_, .load _ _, _, _, _, _⟩ _ _ _; first | refine Br hG Y Y Y ?_ | refine Ap 0 hG Y Y Y Y ?_)
      | (show AOp _ _ ⟨_, .indexAddr _ _ _, _, _, _, _⟩ _ _ _; first | refine Bp hG Y Y Y Y Y Y Y (by omega) ?_ | refine Bq hG Y Y Y Y Y Y Y (by omega) ?_ | refine r_idx hG Y Y ?_)
      | (show AOp _ _ ⟨_, .call ⟨.builtin .append, _, _⟩, _, _, _, _⟩ _ _ _; first | refine Bt (sz := 1) (xs := []) hG Y Y Y Y Y Y Y ⟨_, Y⟩ Y Y Y Y Y Y Y (by first | omega | (simp; omega)) (fun k => ?_) | refine Bv 0 hG Y Y Y Y Y Y Y ⟨_, Y⟩ Y Y Y Y Y (by first | omega | (simp only [List.length_append, List.length_cons, List.length_nil]; omega)) (fun k => ?_) | fail)
      | (show AOp _ _ ⟨_, .call ⟨.value _, _, _⟩, _, _, _, _⟩ _ _ _; first | (refine r_owns Y Y Y Y Y (by apply grow_nil <;> (first | assumption | omega | exact Ac _ _ | exact Ah _ | exact Ak _ _ | exact As _ | rfl | (simp; omega))) (fun k => ?_)) | (have := kk; clear this; refine A4 Y Y Y Y Y (Owns.pure (by apply grow_nil <;> (first | assumption | omega | exact Ac _ _ | exact Ah _ | exact Ak _ _ | exact As _ | rfl | (simp; omega)))) ?_) | fail)
      | refine r_q hG Y Y Y ?_))
    | (show AL _ _ _ _ _ _ _ _; first | refine A9 Y Y Y ?_ | (refine Al ?_; first | show AW _ _ _ _ _ _ | show ∃ x', _ < _ ∧ _)) | (show AW _ _ (.seq _ _) _ _ _; refine Af ?_; intro Q1) | (show AW _ _ (.region _ _ false) _ _ _; refine Ae ?_; intro O1) | (show AW _ _ (.cond _ _ _) _ _ _; first | refine Ai Y ?_ | refine Aj Y ?_) | (show AW _ _ (.skip) _ _ _; refine Ag ?_; first | show AW _ _ _ _ _ _ | show ∃ x', _ < _ ∧ _) | (show AW _ _ (.block _ _) _ _ _; refine Ax ?_; intro Q1) | (show AW _ _ (.exit _) _ _ _; refine B5 ?_; first | show AW _ _ _ _ _ _ | show ∃ x', _ < _ ∧ _) | (show AW _ _ (.ret) _ _ _; refine Ar ?_; try dsimp only [Ao, Aa, Am, Ab]) | fail)
    refine aw_loop (X := CatY bs) (fun x => [(25, lT bs), (26, .int .i64 bs.length), (27, .int .i64 x.i), (6, .sl 1 (.tok x.k) ((bs.take x.i).flatten.map bT))]) (fun x => ⟨[], [x.k], off, none⟩) (fun x => bs.length - x.i) ⟨0, k, Nat.zero_le _⟩ ?_ (.refl _) ?_
    · exact .cons rfl (.consW rfl (.int (by simp)) (.consW rfl (.int rfl) (.consW rfl (.eq (by simp)) (.nil _))))
    rintro ⟨i, k, hi⟩
    dsimp only
    have hle := total_take_le bs i
    have hfl := flatten_length (bs.take i)
    by_cases hib : i < bs.length
    · have htk := take_getD bs i hib
      have hle2 := total_take_le bs (i + 1)
      rw [htk, total_snoc] at hle2
      repeat' (first
    | ((show AL _ _ _ _ _ _ _ _; refine Ad Y ?_); (first
      | (show AOp _ _ ⟨_, .move _, _, _, _, _⟩ _ _ _; refine Aq hG Y Y ?_)
      | (show AOp _ _ ⟨_, .assign _, _, _, _, _⟩ _ _ _; refine Az hG Y Y ?_)
      | (show AOp _ _ ⟨_, .call ⟨.builtin .len, _, _⟩, _, _, _, _⟩ _ _ _; first | refine Bc hG Y Y Y Y ?_ | refine Bj hG Y Y Y Y Y ?_)
      | (show AOp _ _ ⟨_, .binOp .add _ _ _ _, _, _, _, _⟩ _ _ _; first | refine A3 hG Y Y Y Y Y (by omega) ?_)
      | (show AOp _ _ ⟨_, .binOp _ _ _ _ _, _, _, _, _⟩ _ _ _; first | refine Aw hG Y Y Y Y Y (by omega) ?_ | refine Av hG Y Y Y Y Y (by omega) ?_ | (refine Au hG Y Y Y Y Y (fun h => ?_) (fun h => ?_)))
      | (show AOp _ _ ⟨_, .load _ _, _, _, _, _⟩ _ _ _; first | refine Br hG Y Y Y ?_ | refine Ap 0 hG Y Y Y Y ?_)
      | (show AOp _ _ ⟨_, .indexAddr _ _ _, _, _, _, _⟩ _ _ _; first | refine Bp hG Y Y Y Y Y Y Y (by omega) ?_ | refine Bq hG Y Y Y Y Y Y Y (by omega) ?_ | refine r_idx hG Y Y ?_)
      | (show AOp _ _ ⟨_, .call ⟨.builtin .append, _, _⟩, _, _, _, _⟩ _ _ _; first | refine Bt (sz := 1) (xs := []) hG Y Y Y Y Y Y Y ⟨_, Y⟩ Y Y Y Y Y Y Y (by first | omega | (simp; omega)) (fun k => ?_) | refine Bv 0 hG Y Y Y Y Y Y Y ⟨_, Y⟩ Y Y Y Y Y (by first | omega | (simp only [List.length_append, List.length_cons, List.length_nil]; omega)) (fun k => ?_) | fail)
      | refine r_q hG Y Y Y ?_))
    | (show AL _ _ _ _ _ _ _ _; first | refine A9 Y Y Y ?_ | (refine Al ?_; first | show AW _ _ _ _ _ _ | show ∃ x', _ < _ ∧ _)) | (show AW _ _ (.seq _ _) _ _ _; refine Af ?_; intro Q1) | (show AW _ _ (.region _ _ false) _ _ _; refine Ae ?_; intro O1) | (show AW _ _ (.cond _ _ _) _ _ _; first | refine Ai Y ?_ | refine Aj Y ?_) | (show AW _ _ (.skip) _ _ _; refine Ag ?_; first | show AW _ _ _ _ _ _ | show ∃ x', _ < _ ∧ _) | (show AW _ _ (.block _ _) _ _ _; refine Ax ?_; intro Q1) | (show AW _ _ (.exit _) _ _ _; refine B5 ?_; first | show AW _ _ _ _ _ _ | show ∃ x', _ < _ ∧ _) | (show AW _ _ (.ret) _ _ _; refine Ar ?_; try dsimp only [Ao, Aa, Am, Ab]) | fail)
      refine ⟨⟨i + 1, _, by omega⟩, by dsimp only; omega, ?_, .refl _⟩
      refine .cons rfl (.cons rfl (.consW rfl (.int (by simp)) (.consW rfl (.eq ?_) (.nil _))))
      rw [htk, List.flatten_append]; simp
    · obtain rfl : i = bs.length := by omega
      rw [List.take_length] at *
      repeat' (first
    | ((show AL _ _ _ _ _ _ _ _; refine Ad Y ?_); (first
      | (show AOp _ _ ⟨_, .move _, _, _, _, _⟩ _ _ _; refine Aq hG Y Y ?_)
      | (show AOp _ _ ⟨_, .assign _, _, _, _, _⟩ _ _ _; refine Az hG Y Y ?_)
      | (show AOp _ _ ⟨_, .call ⟨.builtin .len, _, _⟩, _, _, _, _⟩ _ _ _; first | refine Bc hG Y Y Y Y ?_ | refine Bj hG Y Y Y Y Y ?_)
      | (show AOp _ _ ⟨_, .binOp .add _ _ _ _, _, _, _, _⟩ _ _ _; first | refine A3 hG Y Y Y Y Y (by omega) ?_)
      | (show AOp _ _ ⟨_, .binOp _ _ _ _ _, _, _, _, _⟩ _ _ _; first | refine Aw hG Y Y Y Y Y (by omega) ?_ | refine Av hG Y Y Y Y Y (by omega) ?_ | (refine Au hG Y Y Y Y Y (fun h => ?_) (fun h => ?_)))
      | (show AOp _ _ ⟨_, .load _ _, _, _, _, _⟩ _ _ _; first | refine Br hG Y Y Y ?_ | refine Ap 0 hG Y Y Y Y ?_)
      | (show AOp _ _ ⟨_, .indexAddr _ _ _, _, _, _, _⟩ _ _ _; first | refine Bp hG Y Y Y Y Y Y Y (by omega) ?_ | refine Bq hG Y Y Y Y Y Y Y (by omega) ?_ | refine r_idx hG Y Y ?_)
      | (show AOp _ _ ⟨_, .call ⟨.builtin .append, _, _⟩, _, _, _, _⟩ _ _ _; first | refine Bt (sz := 1) (xs := []) hG Y Y Y Y Y Y Y ⟨_, Y⟩ Y Y Y Y Y Y Y (by first | omega | (simp; omega)) (fun k => ?_) | refine Bv 0 hG Y Y Y Y Y Y Y ⟨_, Y⟩ Y Y Y Y Y (by first | omega | (simp only [List.length_append, List.length_cons, List.length_nil]; omega)) (fun k => ?_) | fail)
      | refine r_q hG Y Y Y ?_))
    | (show AL _ _ _ _ _ _ _ _; first | refine A9 Y Y Y ?_ | (refine Al ?_; first | show AW _ _ _ _ _ _ | show ∃ x', _ < _ ∧ _)) | (show AW _ _ (.seq _ _) _ _ _; refine Af ?_; intro Q1) | (show AW _ _ (.region _ _ false) _ _ _; refine Ae ?_; intro O1) | (show AW _ _ (.cond _ _ _) _ _ _; first | refine Ai Y ?_ | refine Aj Y ?_) | (show AW _ _ (.skip) _ _ _; refine Ag ?_; first | show AW _ _ _ _ _ _ | show ∃ x', _ < _ ∧ _) | (show AW _ _ (.block _ _) _ _ _; refine Ax ?_; intro Q1) | (show AW _ _ (.exit _) _ _ _; refine B5 ?_; first | show AW _ _ _ _ _ _ | show ∃ x', _ < _ ∧ _) | (show AW _ _ (.ret) _ _ _; refine Ar ?_; try dsimp only [Ao, Aa, Am, Ab]) | fail)
      exact ret_owns 0 (A1 rfl A0) rfl rfl rfl

def putBs (b s : List UInt8) : List UInt8 := b ++ putI s.length 2 ++ s
theorem num_PutBytes {x y : T} {b s : List UInt8} (hx : bytesT x = some b) (hy : bytesT y = some s) (hl : b.length ≤ 4294880000) (hs : s.length ≤ 70000) :
    Owns Try.prog 33 [x, y] 1 ((putBs b s).map bT) := by
  refine Owns.weak (us := [sT b, sT s]) ?_ (wk2 (bytesT_wk hx) (bytesT_wk hy))
  intro off
  refine A5 (N := 13) (rs := [.tmp 4]) hG Try.func33 rfl rfl rfl rfl rfl ?_
  have hpl := putI_le s.length 2
  repeat' (first
    | ((show AL _ _ _ _ _ _ _ _; refine Ad Y ?_); (first
      | (show AOp _ _ ⟨_, .move _, _, _, _, _⟩ _ _ _; refine Aq hG Y Y ?_)
      | (show AOp _ _ ⟨_, .assign _, _, _, _, _⟩ _ _ _; refine Az hG Y Y ?_)
      | (show AOp _ _ ⟨_, .call ⟨.builtin .len, _, _⟩, _, _, _, _⟩ _ _ _; first | refine Bc hG Y Y Y Y ?_ | refine Bj hG Y Y Y Y Y ?_)
      | (show AOp _ _ ⟨_, .convert _ _ _, _, _, _, _⟩ _ _ _; first | refine Bz hG Y Y Y Y Y (by omega) ?_ | refine Bh hG Y Y Y Y Y ?_)
      | (show AOp _ _ ⟨_, .buildSlice _ _ _, _, _, _, _⟩ _ _ _; first | refine r_mk (sz := 1) hG Y Y Y Y Y Y Y ?_)
      | (show AOp _ _ ⟨_, .call ⟨.value _, _, _⟩, _, _, _, _⟩ _ _ _; first | (refine r_owns Y Y Y Y Y (by apply num_Put <;> (first | assumption | omega | exact Ac _ _ | exact Ah _ | exact Ak _ _ | exact As _ | rfl | (simp; omega))) (fun k => ?_)) | (have := kk; clear this; refine A4 Y Y Y Y Y (Owns.pure (by apply num_Put <;> (first | assumption | omega | exact Ac _ _ | exact Ah _ | exact Ak _ _ | exact As _ | rfl | (simp; omega)))) ?_) | fail)
      | refine r_q hG Y Y Y ?_))
    | (show AL _ _ _ _ _ _ _ _; first | refine A9 Y Y Y ?_ | (refine Al ?_; first | show AW _ _ _ _ _ _ | show ∃ x', _ < _ ∧ _)) | (show AW _ _ (.seq _ _) _ _ _; refine Af ?_; intro Q1) | (show AW _ _ (.region _ _ false) _ _ _; refine Ae ?_; intro O1) | (show AW _ _ (.ret) _ _ _; refine Ar ?_; try dsimp only [Ao, Aa, Am, Ab]) | fail)
  refine Ad rfl (r_owns rfl rfl rfl rfl rfl (concat_b (bs := [b ++ putI s.length 2, s]) ?_ ?_ ?_) (fun k => ?_))
  · simp only [lettersT, lettersOf, Ac, Ah]
  · simp [total]; omega
  · simp
  repeat' (first
    | ((show AL _ _ _ _ _ _ _ _; refine Ad Y ?_); (first
      | (show AOp _ _ ⟨_, .move _, _, _, _, _⟩ _ _ _; refine Aq hG Y Y ?_)
      | (show AOp _ _ ⟨_, .assign _, _, _, _, _⟩ _ _ _; refine Az hG Y Y ?_)
      | (show AOp _ _ ⟨_, .call ⟨.builtin .len, _, _⟩, _, _, _, _⟩ _ _ _; first | refine Bc hG Y Y Y Y ?_ | refine Bj hG Y Y Y Y Y ?_)
      | (show AOp _ _ ⟨_, .convert _ _ _, _, _, _, _⟩ _ _ _; first | refine Bz hG Y Y Y Y Y (by omega) ?_ | refine Bh hG Y Y Y Y Y ?_)
      | (show AOp _ _ ⟨_, .buildSlice _ _ _, _, _, _, _⟩ _ _ _; first | refine r_mk (sz := 1) hG Y Y Y Y Y Y Y ?_)
      | refine r_q hG Y Y Y ?_))
    | (show AL _ _ _ _ _ _ _ _; first | refine A9 Y Y Y ?_ | (refine Al ?_; first | show AW _ _ _ _ _ _ | show ∃ x', _ < _ ∧ _)) | (show AW _ _ (.seq _ _) _ _ _; refine Af ?_; intro Q1) | (show AW _ _ (.region _ _ false) _ _ _; refine Ae ?_; intro O1) | (show AW _ _ (.ret) _ _ _; refine Ar ?_; try dsimp only [Ao, Aa, Am, Ab]) | fail)
  exact ret_owns 0 (A1 rfl A0) rfl (by simp [putBs]) rfl
end Go.Proofs.Ytholeicgmkjadaa
namespace Go.Proofs.Ytholeicgmkjadaa
open Go.Ts
attribute [local irreducible] Go.Ts.AW Go.Ts.AOps Go.Ts.AL Go.Ts.AOp Go.Ts.ACalls Go.Ts.DL
def takeBE (b : List UInt8) : List UInt8 × Nat × Int :=
  if b.length < 2 then ([], 0, 3) else if b.length - 2 < beV (b.take 2) then ([], 0, 3) else ((b.take (2 + beV (b.take 2))).drop 2, 2 + beV (b.take 2), 0)
def tbT (r : List UInt8 × Nat × Int) : T := .tup [sT r.1, .int .i64 r.2.1, .int .i64 r.2.2]
theorem beV2 (b : List UInt8) (h : 2 ≤ b.length) : beV (b.take 2) < 65536 := by have := beV_lt 2 (b.take 2) (by simp; omega); simpa using this
theorem takeE2 (b : List UInt8) : takeE b 2 = if b.length < 2 then (0, 3) else (beV (b.take 2), 0) := by
  unfold takeE
  rw [if_neg (by omega)]
  by_cases h : b.length < 2
  · rw [if_pos (by omega), if_pos h]
  · rw [if_neg (by omega), if_neg h]; rfl

theorem num_TakeBytes {x : T} {b : List UInt8} (hx : bytesT x = some b) (hl : b.length ≤ 4294967296) : Pure Try.prog 68 [x] (tbT (takeBE b)) := by
  refine Pure.weak (us := [sT b]) ?_ (wk1 (bytesT_wk hx))
  intro off
  refine A5 (N := 29) (rs := [.tmp 2, .tmp 3, .tmp 4]) hG Try.func68 rfl rfl rfl rfl rfl ?_
  have hT := takeE2 b
  by_cases h2 : b.length < 2
  · rw [if_pos h2] at hT
    have hr : takeBE b = ([], 0, 3) := by rw [takeBE, if_pos h2]
    rw [hr]
    have hc := num_Take (n := 2) (Ah b)
    rw [hT] at hc; dsimp only at hc
    repeat' (first
    | ((show AL _ _ _ _ _ _ _ _; refine Ad Y ?_); (first
      | (show AOp _ _ ⟨_, .move _, _, _, _, _⟩ _ _ _; refine Aq hG Y Y ?_)
      | (show AOp _ _ ⟨_, .assign _, _, _, _, _⟩ _ _ _; refine Az hG Y Y ?_)
      | (show AOp _ _ ⟨_, .call ⟨.builtin .len, _, _⟩, _, _, _, _⟩ _ _ _; first | refine Bc hG Y Y Y Y ?_ | refine Bj hG Y Y Y Y Y ?_)
      | (show AOp _ _ ⟨_, .binOp .add _ _ _ _, _, _, _, _⟩ _ _ _; first | refine A3 hG Y Y Y Y Y (by omega) ?_)
      | (show AOp _ _ ⟨_, .binOp .sub _ _ _ _, _, _, _, _⟩ _ _ _; first | refine A3 hG Y Y Y Y Y (by omega) ?_)
      | (show AOp _ _ ⟨_, .binOp _ _ _ _ _, _, _, _, _⟩ _ _ _; first | refine Aw hG Y Y Y Y Y (by omega) ?_ | refine Av hG Y Y Y Y Y (by omega) ?_ | (refine Au hG Y Y Y Y Y (fun h => ?_) (fun h => ?_)))
      | (show AOp _ _ ⟨_, .convert _ _ _, _, _, _, _⟩ _ _ _; first | refine A7 hG Y Y Y Y Y (by omega) ?_ | refine Bh hG Y Y Y Y Y ?_)
      | (show AOp _ _ ⟨_, .slice _ _ _ _ _, _, _, _, _⟩ _ _ _; first | refine r_sl_lhn hG Y Y Y Y Y Y Y Y (by omega) ?_ | refine r_sl_lh hG Y Y Y Y Y Y Y Y (by omega) ?_ | refine op_cut0 hG Y Y Y Y Y Y Y Y Y Y ?_ | refine r_sl hG Y Y ?_)
      | (show AOp _ _ ⟨_, .call ⟨.value _, _, _⟩, _, _, _, _⟩ _ _ _; first | refine A4 Y Y Y Y Y (by apply hc <;> (first | assumption | omega | exact Ac _ _ | exact Ah _ | exact Ak _ _ | exact As _ | rfl | (simp; omega))) ?_ | fail)
      | refine r_q hG Y Y Y ?_))
    | (show AL _ _ _ _ _ _ _ _; first | refine A9 Y Y Y ?_ | (refine Al ?_; first | show AW _ _ _ _ _ _ | show ∃ x', _ < _ ∧ _)) | (show AW _ _ (.seq _ _) _ _ _; refine Af ?_; intro Q1) | (show AW _ _ (.region _ _ false) _ _ _; refine Ae ?_; intro O1) | (show AW _ _ (.cond _ _ _) _ _ _; first | refine Ai Y ?_ | refine Aj Y ?_) | (show AW _ _ (.skip) _ _ _; refine Ag ?_; first | show AW _ _ _ _ _ _ | show ∃ x', _ < _ ∧ _) | (show AW _ _ (.ret) _ _ _; refine Ar ?_; try dsimp only [Ao, Aa, Am, Ab]) | fail)
    exact Bb (A1 rfl (A1 rfl (A1 rfl A0))) (Wk.tupL (wk3 (.nil 1) (.refl _) (.refl _))) rfl
  · rw [if_neg h2] at hT
    have hv := beV2 b (by omega)
    have hc := num_Take (n := 2) (Ah b)
    rw [hT] at hc; dsimp only at hc
    repeat' (first
    | ((show AL _ _ _ _ _ _ _ _; refine Ad Y ?_); (first
      | (show AOp _ _ ⟨_, .move _, _, _, _, _⟩ _ _ _; refine Aq hG Y Y ?_)
      | (show AOp _ _ ⟨_, .assign _, _, _, _, _⟩ _ _ _; refine Az hG Y Y ?_)
      | (show AOp _ _ ⟨_, .call ⟨.builtin .len, _, _⟩, _, _, _, _⟩ _ _ _; first | refine Bc hG Y Y Y Y ?_ | refine Bj hG Y Y Y Y Y ?_)
      | (show AOp _ _ ⟨_, .binOp .add _ _ _ _, _, _, _, _⟩ _ _ _; first | refine A3 hG Y Y Y Y Y (by omega) ?_)
      | (show AOp _ _ ⟨_, .binOp .sub _ _ _ _, _, _, _, _⟩ _ _ _; first | refine A3 hG Y Y Y Y Y (by omega) ?_)
      | (show AOp _ _ ⟨_, .binOp _ _ _ _ _, _, _, _, _⟩ _ _ _; first | refine Aw hG Y Y Y Y Y (by omega) ?_ | refine Av hG Y Y Y Y Y (by omega) ?_ | (refine Au hG Y Y Y Y Y (fun h => ?_) (fun h => ?_)))
      | (show AOp _ _ ⟨_, .convert _ _ _, _, _, _, _⟩ _ _ _; first | refine A7 hG Y Y Y Y Y (by omega) ?_ | refine Bh hG Y Y Y Y Y ?_)
      | (show AOp _ _ ⟨_, .slice _ _ _ _ _, _, _, _, _⟩ _ _ _; first | refine r_sl_lhn hG Y Y Y Y Y Y Y Y (by omega) ?_ | refine r_sl_lh hG Y Y Y Y Y Y Y Y (by omega) ?_ | refine op_cut0 hG Y Y Y Y Y Y Y Y Y Y ?_ | refine r_sl hG Y Y ?_)
      | (show AOp _ _ ⟨_, .call ⟨.value _, _, _⟩, _, _, _, _⟩ _ _ _; first | refine A4 Y Y Y Y Y (by apply hc <;> (first | assumption | omega | exact Ac _ _ | exact Ah _ | exact Ak _ _ | exact As _ | rfl | (simp; omega))) ?_ | (refine r_owns Y Y Y Y Y (by apply clone_b <;> (first | assumption | omega | exact Ac _ _ | exact Ah _ | exact Ak _ _ | exact As _ | rfl | (simp; omega))) (fun k => ?_)) | (have := kk; clear this; refine A4 Y Y Y Y Y (Owns.pure (by apply clone_b <;> (first | assumption | omega | exact Ac _ _ | exact Ah _ | exact Ak _ _ | exact As _ | rfl | (simp; omega)))) ?_) | fail)
      | refine r_q hG Y Y Y ?_))
    | (show AL _ _ _ _ _ _ _ _; first | refine A9 Y Y Y ?_ | (refine Al ?_; first | show AW _ _ _ _ _ _ | show ∃ x', _ < _ ∧ _)) | (show AW _ _ (.seq _ _) _ _ _; refine Af ?_; intro Q1) | (show AW _ _ (.region _ _ false) _ _ _; refine Ae ?_; intro O1) | (show AW _ _ (.cond _ _ _) _ _ _; first | refine Ai Y ?_ | refine Aj Y ?_) | (show AW _ _ (.skip) _ _ _; refine Ag ?_; first | show AW _ _ _ _ _ _ | show ∃ x', _ < _ ∧ _) | (show AW _ _ (.ret) _ _ _; refine Ar ?_; try dsimp only [Ao, Aa, Am, Ab]) | fail)
    · have hr : takeBE b = ([], 0, 3) := by rw [takeBE, if_neg h2, if_pos (by omega)]
      refine Bb (A1 rfl (A1 rfl (A1 rfl A0))) ?_ rfl
      rw [hr]
      exact Wk.tupL (wk3 (.nil 1) (.refl _) (.refl _))
    · have hr : takeBE b = ((b.take (2 + beV (b.take 2))).drop 2, 2 + beV (b.take 2), 0) := by rw [takeBE, if_neg h2, if_neg (by omega)]
      refine Bb (A1 rfl (A1 rfl (A1 rfl A0))) ?_ rfl
      rw [hr]
      refine Wk.tupL (wk3 ((Wk.own _ _ _).trans (.eq ?_)) (.int (by simp)) (.refl _))
      rw [sT]; congr 3

end Go.Proofs.Ytholeicgmkjadaa
namespace Go.Sets
set_option linter.unusedSimpArgs false
set_option linter.unusedVariables false
abbrev C := UInt16

theorem lt_irrefl (x : C) : ¬ x < x := by simp [UInt16.lt_iff_toNat_lt]
def risesB : List C → Bool
  | x :: y :: r => decide (x < y) && risesB (y :: r)
  | _ => true
def mergeK (keep : Bool → Bool → Bool) : List C → List C → List C
  | [], [] => []
  | [], y :: b => cond (keep false true) [y] [] ++ mergeK keep [] b
  | x :: a, [] => cond (keep true false) [x] [] ++ mergeK keep a []
  | x :: a, y :: b => if x < y then cond (keep true false) [x] [] ++ mergeK keep a (y :: b)
      else if y < x then cond (keep false true) [y] [] ++ mergeK keep (x :: a) b
      else cond (keep true true) [x] [] ++ mergeK keep a b
termination_by a b => a.length + b.length

def kOr (_ _ : Bool) : Bool := true
def ins (x : C) : List C → List C
  | [] => [x]
  | y :: l => if x < y then x :: y :: l else if x = y then y :: l else y :: ins x l
def mk (l : List C) : List C := l.foldl (fun acc x => ins x acc) []
theorem merge_length_le (keep : Bool → Bool → Bool) : ∀ (a b : List C), (mergeK keep a b).length ≤ a.length + b.length
  | [], [] => by simp [mergeK]
  | [], y :: b => by
    have := merge_length_le keep [] b
    rw [mergeK]; cases keep false true <;> simp at this ⊢ <;> omega
  | x :: a, [] => by
    have := merge_length_le keep a []
    rw [mergeK]; cases keep true false <;> simp at this ⊢ <;> omega
  | x :: a, y :: b => by
    rw [mergeK]
    split
    · have := merge_length_le keep a (y :: b)
      cases keep true false <;> simp at this ⊢ <;> omega
    · split
      · have := merge_length_le keep (x :: a) b
        cases keep false true <;> simp at this ⊢ <;> omega
      · have := merge_length_le keep a b
        cases keep true true <;> simp at this ⊢ <;> omega
termination_by a b => a.length + b.length
end Go.Sets
namespace Go.Proofs.Ytholeicgmkjadaa
open Go.Ts Go.Sets
attribute [local irreducible] Go.Ts.AW Go.Ts.AOps Go.Ts.AL Go.Ts.AOp Go.Ts.ACalls Go.Ts.DL
theorem hT_lt {x y : UInt16} : ((x.toNat : Int) < (y.toNat : Int)) ↔ x < y := by rw [UInt16.lt_iff_toNat_lt]; omega

structure MX (keep : Bool → Bool → Bool) (a b : List UInt16) where
  a' : List UInt16
  b' : List UInt16
  pre : List UInt16
  k : Nat
  hp : pre ++ mergeK keep a' b' = mergeK keep a b
  hl : pre.length + a'.length + b'.length ≤ a.length + b.length
set_option maxHeartbeats 4000000 in
theorem merge_any {g : Nat} {keep : Bool → Bool → Bool} (hk : ∀ i t, Pure Try.prog g [.bool i, .bool t] (.bool (keep i t))) {x y : T} {a b : List UInt16} (hx : catsT x = some a) (hy : catsT y = some b) (hl : a.length + b.length ≤ 4294967000) :
    Owns Try.prog 76 [x, y, .fn (.func g) []] 1 ((mergeK keep a b).map hT) := by
  refine Owns.weak (us := [cT a, cT b, .fn (.func g) []]) ?_ (wk3 (catsT_wk hx) (catsT_wk hy) (.refl _))
  intro off
  refine A5 (N := 72) (rs := [.tmp 6]) hG Try.func76 rfl rfl rfl rfl rfl ?_
  repeat' (first
    | ((first | (show AL _ _ _ _ _ _ _ _; refine Ad Y ?_) | (show DL _ _ _ _ _ _ _; refine' Be Y Y (fun K kk => ?_) ?_; try (show Go.Ts.T; rotate_left))); (first
      | (show AOp _ _ ⟨_, .move _, _, _, _, _⟩ _ _ _; refine Aq hG Y Y ?_)
      | (show AOp _ _ ⟨_, .assign _, _, _, _, _⟩ _ _ _; refine Az hG Y Y ?_)
      | (show AOp _ _ ⟨_, .call ⟨.builtin .len, _, _⟩, _, _, _, _⟩ _ _ _; first | refine Bc hG Y Y Y Y ?_ | refine Bj hG Y Y Y Y Y ?_)
      | (show AOp _ _ ⟨_, .binOp .add _ _ _ _, _, _, _, _⟩ _ _ _; first | refine A3 hG Y Y Y Y Y (by omega) ?_)
      | (show AOp _ _ ⟨_, .binOp _ _ _ _ _, _, _, _, _⟩ _ _ _; first | refine Aw hG Y Y Y Y Y (by omega) ?_ | refine Av hG Y Y Y Y Y (by omega) ?_ | ((fail_if_success have := kk); refine Au hG Y Y Y Y Y (fun h => ?_) (fun h => ?_)))
      | (show AOp _ _ ⟨_, .load _ _, _, _, _, _⟩ _ _ _; first | refine Br hG Y Y Y ?_ | refine Ap 0 hG Y Y Y Y ?_)
      | (show AOp _ _ ⟨_, .indexAddr _ _ _, _, _, _, _⟩ _ _ _; first | refine r_idx0 hG Y Y Y Y Y Y Y ?_ | refine Bp hG Y Y Y Y Y Y Y (by omega) ?_ | refine Bq hG Y Y Y Y Y Y Y (by omega) ?_ | refine r_idx hG Y Y ?_)
      | (show AOp _ _ ⟨_, .slice _ _ _ _ _, _, _, _, _⟩ _ _ _; first | refine Bu hG Y Y Y Y Y Y Y (by omega) ?_ | refine B1 hG Y Y Y Y Y Y Y (by omega) ?_ | refine r_sl hG Y Y ?_)
      | (show AOp _ _ ⟨_, .pick _ _ _, _, _, _, _⟩ _ _ _; refine B2 hG Y Y Y ?_)
      | (show AOp _ _ ⟨_, .buildSlice _ _ _, _, _, _, _⟩ _ _ _; first | refine r_mk (sz := 1) hG Y Y Y Y Y Y Y ?_)
      | (show AOp _ _ ⟨_, .call ⟨.builtin .append, _, _⟩, _, _, _, _⟩ _ _ _; first | refine Bt (sz := 1) (xs := []) hG Y Y Y Y Y Y Y ⟨_, Y⟩ Y Y Y Y Y Y Y (by first | omega | (simp; omega)) (fun k => ?_) | refine Bv 0 hG Y Y Y Y Y Y Y ⟨_, Y⟩ Y Y Y Y Y (by first | omega | (simp only [List.length_append, List.length_cons, List.length_nil]; omega)) (fun k => ?_) | fail)
      | refine r_q hG Y Y Y ?_); try exact kk)
    | (show AL _ _ _ _ _ _ _ _; first | refine A9 Y Y Y ?_ | (refine Al ?_; first | show AW _ _ _ _ _ _ | show ∃ x', _ < _ ∧ _)) | (show AW _ _ (.seq _ _) _ _ _; refine Af ?_; intro Q1) | (show AW _ _ (.region _ _ false) _ _ _; refine Ae ?_; intro O1) | (show AW _ _ (.cond _ _ _) _ _ _; first | refine Ai Y ?_ | refine Aj Y ?_) | (show AW _ _ (.skip) _ _ _; refine Ag ?_; first | show AW _ _ _ _ _ _ | show ∃ x', _ < _ ∧ _) | (show AW _ _ (.goto _) _ _ _; refine Bm ?_; try dsimp only [Ao, Aa, Am, Ab]) | (show AW _ _ (.ret) _ _ _; refine Ar ?_; try dsimp only [Ao, Aa, Am, Ab])
    | (show DL _ _ _ _ _ _ _; refine dl_d Y Y (fun K kt kf => Au hG Y Y Y Y Y kt kf) (fun h => ?_) (fun h => ?_))
    | (show DL _ _ _ _ _ _ _; refine dl_s Y Y Y ?_) | (show DL _ _ _ _ _ _ _; refine Bk ?_; first | show AW _ _ _ _ _ _ | show ∃ x', _ < _ ∧ _) | (show AW _ _ (.region _ _ true) _ _ _; refine Ba mix (by kernel_rfl) ?_; intro O1) | fail)
  refine aw_scope' 0 rfl (X := MX keep a b) (fun x => [(0, cT x.a'), (1, cT x.b'), (2, .fn (.func g) []), (7, .sl 1 (.tok x.k) (x.pre.map hT))]) (fun x => ⟨[], [x.k], off, none⟩) (fun x => x.a'.length + x.b'.length) ?_ ?_
  · rintro ⟨a', b', pre, k, hp, hl'⟩
    dsimp only at *
    cases a' with
    | nil =>
      have n1 : ([] : List UInt16).length = 0 := rfl
      cases b' with
      | nil =>
        repeat' (first
    | ((first | (show AL _ _ _ _ _ _ _ _; refine Ad Y ?_) | (show DL _ _ _ _ _ _ _; refine' Be Y Y (fun K kk => ?_) ?_; try (show Go.Ts.T; rotate_left))); (first
      | (show AOp _ _ ⟨_, .move _, _, _, _, _⟩ _ _ _; refine Aq hG Y Y ?_)
      | (show AOp _ _ ⟨_, .assign _, _, _, _, _⟩ _ _ _; refine Az hG Y Y ?_)
      | (show AOp _ _ ⟨_, .call ⟨.builtin .len, _, _⟩, _, _, _, _⟩ _ _ _; first | refine Bc hG Y Y Y Y ?_ | refine Bj hG Y Y Y Y Y ?_)
      | (show AOp _ _ ⟨_, .binOp .add _ _ _ _, _, _, _, _⟩ _ _ _; first | refine A3 hG Y Y Y Y Y (by omega) ?_)
      | (show AOp _ _ ⟨_, .binOp _ _ _ _ _, _, _, _, _⟩ _ _ _; first | refine Aw hG Y Y Y Y Y (by omega) ?_ | refine Av hG Y Y Y Y Y (by omega) ?_ | ((fail_if_success have := kk); refine Au hG Y Y Y Y Y (fun h => ?_) (fun h => ?_)))
      | (show AOp _ _ ⟨_, .load _ _, _, _, _, _⟩ _ _ _; first | refine Br hG Y Y Y ?_ | refine Ap 0 hG Y Y Y Y ?_)
      | (show AOp _ _ ⟨_, .indexAddr _ _ _, _, _, _, _⟩ _ _ _; first | refine r_idx0 hG Y Y Y Y Y Y Y ?_ | refine Bp hG Y Y Y Y Y Y Y (by omega) ?_ | refine Bq hG Y Y Y Y Y Y Y (by omega) ?_ | refine r_idx hG Y Y ?_)
      | (show AOp _ _ ⟨_, .slice _ _ _ _ _, _, _, _, _⟩ _ _ _; first | refine Bu hG Y Y Y Y Y Y Y (by omega) ?_ | refine B1 hG Y Y Y Y Y Y Y (by omega) ?_ | refine r_sl hG Y Y ?_)
      | (show AOp _ _ ⟨_, .pick _ _ _, _, _, _, _⟩ _ _ _; refine B2 hG Y Y Y ?_)
      | (show AOp _ _ ⟨_, .buildSlice _ _ _, _, _, _, _⟩ _ _ _; first | refine r_mk (sz := 1) hG Y Y Y Y Y Y Y ?_)
      | (show AOp _ _ ⟨_, .call ⟨.builtin .append, _, _⟩, _, _, _, _⟩ _ _ _; first | refine Bt (sz := 1) (xs := []) hG Y Y Y Y Y Y Y ⟨_, Y⟩ Y Y Y Y Y Y Y (by first | omega | (simp; omega)) (fun k => ?_) | refine Bv 0 hG Y Y Y Y Y Y Y ⟨_, Y⟩ Y Y Y Y Y (by first | omega | (simp only [List.length_append, List.length_cons, List.length_nil]; omega)) (fun k => ?_) | fail)
      | refine r_q hG Y Y Y ?_); try exact kk)
    | (show AL _ _ _ _ _ _ _ _; first | refine A9 Y Y Y ?_ | (refine Al ?_; first | show AW _ _ _ _ _ _ | show ∃ x', _ < _ ∧ _)) | (show AW _ _ (.seq _ _) _ _ _; refine Af ?_; intro Q1) | (show AW _ _ (.region _ _ false) _ _ _; refine Ae ?_; intro O1) | (show AW _ _ (.cond _ _ _) _ _ _; first | refine Ai Y ?_ | refine Aj Y ?_) | (show AW _ _ (.skip) _ _ _; refine Ag ?_; first | show AW _ _ _ _ _ _ | show ∃ x', _ < _ ∧ _) | (show AW _ _ (.goto _) _ _ _; refine Bm ?_; try dsimp only [Ao, Aa, Am, Ab]) | (show AW _ _ (.ret) _ _ _; refine Ar ?_; try dsimp only [Ao, Aa, Am, Ab])
    | (show DL _ _ _ _ _ _ _; refine dl_d Y Y (fun K kt kf => Au hG Y Y Y Y Y kt kf) (fun h => ?_) (fun h => ?_))
    | (show DL _ _ _ _ _ _ _; refine dl_s Y Y Y ?_) | (show DL _ _ _ _ _ _ _; refine Bk ?_; first | show AW _ _ _ _ _ _ | show ∃ x', _ < _ ∧ _) | (show AW _ _ (.region _ _ true) _ _ _; refine Ba mix (by kernel_rfl) ?_; intro O1) | fail)
        exact ret_owns 0 (A1 rfl A0) rfl (by rw [← hp]; simp [mergeK]) rfl
      | cons y b1 =>
        have n2 : (y :: b1).length = b1.length + 1 := rfl
        rw [mergeK] at hp
        have hk' := hk false true
        cases hkk : keep false true <;> rw [hkk] at hk' hp
        · repeat' (first
    | ((first | (show AL _ _ _ _ _ _ _ _; refine Ad Y ?_) | (show DL _ _ _ _ _ _ _; refine' Be Y Y (fun K kk => ?_) ?_; try (show Go.Ts.T; rotate_left))); (first
      | (show AOp _ _ ⟨_, .move _, _, _, _, _⟩ _ _ _; refine Aq hG Y Y ?_)
      | (show AOp _ _ ⟨_, .assign _, _, _, _, _⟩ _ _ _; refine Az hG Y Y ?_)
      | (show AOp _ _ ⟨_, .call ⟨.builtin .len, _, _⟩, _, _, _, _⟩ _ _ _; first | refine Bc hG Y Y Y Y ?_ | refine Bj hG Y Y Y Y Y ?_)
      | (show AOp _ _ ⟨_, .binOp .add _ _ _ _, _, _, _, _⟩ _ _ _; first | refine A3 hG Y Y Y Y Y (by omega) ?_)
      | (show AOp _ _ ⟨_, .binOp _ _ _ _ _, _, _, _, _⟩ _ _ _; first | refine Aw hG Y Y Y Y Y (by omega) ?_ | refine Av hG Y Y Y Y Y (by omega) ?_ | ((fail_if_success have := kk); refine Au hG Y Y Y Y Y (fun h => ?_) (fun h => ?_)))
      | (show AOp _ _ ⟨_, .load _ _, _, _, _, _⟩ _ _ _; first | refine Br hG Y Y Y ?_ | refine Ap 0 hG Y Y Y Y ?_)
      | (show AOp _ _ ⟨_, .indexAddr _ _ _, _, _, _, _⟩ _ _ _; first | refine r_idx0 hG Y Y Y Y Y Y Y ?_ | refine Bp hG Y Y Y Y Y Y Y (by omega) ?_ | refine Bq hG Y Y Y Y Y Y Y (by omega) ?_ | refine r_idx hG Y Y ?_)
      | (show AOp _ _ ⟨_, .slice _ _ _ _ _, _, _, _, _⟩ _ _ _; first | refine Bu hG Y Y Y Y Y Y Y (by omega) ?_ | refine B1 hG Y Y Y Y Y Y Y (by omega) ?_ | refine r_sl hG Y Y ?_)
      | (show AOp _ _ ⟨_, .pick _ _ _, _, _, _, _⟩ _ _ _; refine B2 hG Y Y Y ?_)
      | (show AOp _ _ ⟨_, .buildSlice _ _ _, _, _, _, _⟩ _ _ _; first | refine r_mk (sz := 1) hG Y Y Y Y Y Y Y ?_)
      | (show AOp _ _ ⟨_, .call ⟨.builtin .append, _, _⟩, _, _, _, _⟩ _ _ _; first | refine Bt (sz := 1) (xs := []) hG Y Y Y Y Y Y Y ⟨_, Y⟩ Y Y Y Y Y Y Y (by first | omega | (simp; omega)) (fun k => ?_) | refine Bv 0 hG Y Y Y Y Y Y Y ⟨_, Y⟩ Y Y Y Y Y (by first | omega | (simp only [List.length_append, List.length_cons, List.length_nil]; omega)) (fun k => ?_) | fail)
      | (show AOp _ _ ⟨_, .call ⟨.value _, _, _⟩, _, _, _, _⟩ _ _ _; first | refine A4 Y Y Y Y Y (by apply hk' <;> (first | assumption | omega | exact Ac _ _ | exact Ah _ | exact Ak _ _ | exact As _ | rfl | (simp; omega))) ?_ | fail)
      | refine r_q hG Y Y Y ?_); try exact kk)
    | (show AL _ _ _ _ _ _ _ _; first | refine A9 Y Y Y ?_ | (refine Al ?_; first | show AW _ _ _ _ _ _ | show ∃ x', _ < _ ∧ _)) | (show AW _ _ (.seq _ _) _ _ _; refine Af ?_; intro Q1) | (show AW _ _ (.region _ _ false) _ _ _; refine Ae ?_; intro O1) | (show AW _ _ (.cond _ _ _) _ _ _; first | refine Ai Y ?_ | refine Aj Y ?_) | (show AW _ _ (.skip) _ _ _; refine Ag ?_; first | show AW _ _ _ _ _ _ | show ∃ x', _ < _ ∧ _) | (show AW _ _ (.goto _) _ _ _; refine Bm ?_; try dsimp only [Ao, Aa, Am, Ab]) | (show AW _ _ (.ret) _ _ _; refine Ar ?_; try dsimp only [Ao, Aa, Am, Ab])
    | (show DL _ _ _ _ _ _ _; refine dl_d Y Y (fun K kt kf => Au hG Y Y Y Y Y kt kf) (fun h => ?_) (fun h => ?_))
    | (show DL _ _ _ _ _ _ _; refine dl_s Y Y Y ?_) | (show DL _ _ _ _ _ _ _; refine Bk ?_; first | show AW _ _ _ _ _ _ | show ∃ x', _ < _ ∧ _) | (show AW _ _ (.region _ _ true) _ _ _; refine Ba mix (by kernel_rfl) ?_; intro O1) | fail)
          refine ⟨rfl, ⟨[], b1, pre, k, hp, by simp only [List.length_cons] at *; omega⟩, by simp only [List.length_cons]; omega, ?_, .refl _⟩
          exact .consW rfl (.eq (by simp [cT])) (.consW rfl (.eq (by simp [cT])) (.cons rfl (.cons rfl (.nil _))))
        · repeat' (first
    | ((first | (show AL _ _ _ _ _ _ _ _; refine Ad Y ?_) | (show DL _ _ _ _ _ _ _; refine' Be Y Y (fun K kk => ?_) ?_; try (show Go.Ts.T; rotate_left))); (first
      | (show AOp _ _ ⟨_, .move _, _, _, _, _⟩ _ _ _; refine Aq hG Y Y ?_)
      | (show AOp _ _ ⟨_, .assign _, _, _, _, _⟩ _ _ _; refine Az hG Y Y ?_)
      | (show AOp _ _ ⟨_, .call ⟨.builtin .len, _, _⟩, _, _, _, _⟩ _ _ _; first | refine Bc hG Y Y Y Y ?_ | refine Bj hG Y Y Y Y Y ?_)
      | (show AOp _ _ ⟨_, .binOp .add _ _ _ _, _, _, _, _⟩ _ _ _; first | refine A3 hG Y Y Y Y Y (by omega) ?_)
      | (show AOp _ _ ⟨_, .binOp _ _ _ _ _, _, _, _, _⟩ _ _ _; first | refine Aw hG Y Y Y Y Y (by omega) ?_ | refine Av hG Y Y Y Y Y (by omega) ?_ | ((fail_if_success have := kk); refine Au hG Y Y Y Y Y (fun h => ?_) (fun h => ?_)))
      | (show AOp _ _ ⟨_, .load _ _, _, _, _, _⟩ _ _ _; first | refine Br hG Y Y Y ?_ | refine Ap 0 hG Y Y Y Y ?_)
      | (show AOp _ _ ⟨_, .indexAddr _ _ _, _, _, _, _⟩ _ _ _; first | refine r_idx0 hG Y Y Y Y Y Y Y ?_ | refine Bp hG Y Y Y Y Y Y Y (by omega) ?_ | refine Bq hG Y Y Y Y Y Y Y (by omega) ?_ | refine r_idx hG Y Y ?_)
      | (show AOp _ _ ⟨_, .slice _ _ _ _ _, _, _, _, _⟩ _ _ _; first | refine Bu hG Y Y Y Y Y Y Y (by omega) ?_ | refine B1 hG Y Y Y Y Y Y Y (by omega) ?_ | refine r_sl hG Y Y ?_)
      | (show AOp _ _ ⟨_, .pick _ _ _, _, _, _, _⟩ _ _ _; refine B2 hG Y Y Y ?_)
      | (show AOp _ _ ⟨_, .buildSlice _ _ _, _, _, _, _⟩ _ _ _; first | refine r_mk (sz := 1) hG Y Y Y Y Y Y Y ?_)
      | (show AOp _ _ ⟨_, .call ⟨.builtin .append, _, _⟩, _, _, _, _⟩ _ _ _; first | refine Bv 0 (ys := [y]) hG Y Y Y Y Y Y Y ⟨_, Y⟩ Y Y Y Y Y (by simp only [List.length_append, List.length_map, List.length_cons, List.length_nil]; omega) (fun k => ?_) | refine Bt (sz := 1) (xs := []) hG Y Y Y Y Y Y Y ⟨_, Y⟩ Y Y Y Y Y Y Y (by first | omega | (simp; omega)) (fun k => ?_) | refine Bv 0 hG Y Y Y Y Y Y Y ⟨_, Y⟩ Y Y Y Y Y (by first | omega | (simp only [List.length_append, List.length_cons, List.length_nil]; omega)) (fun k => ?_) | fail)
      | (show AOp _ _ ⟨_, .call ⟨.value _, _, _⟩, _, _, _, _⟩ _ _ _; first | refine A4 Y Y Y Y Y (by apply hk' <;> (first | assumption | omega | exact Ac _ _ | exact Ah _ | exact Ak _ _ | exact As _ | rfl | (simp; omega))) ?_ | fail)
      | refine r_q hG Y Y Y ?_); try exact kk)
    | (show AL _ _ _ _ _ _ _ _; first | refine A9 Y Y Y ?_ | (refine Al ?_; first | show AW _ _ _ _ _ _ | show ∃ x', _ < _ ∧ _)) | (show AW _ _ (.seq _ _) _ _ _; refine Af ?_; intro Q1) | (show AW _ _ (.region _ _ false) _ _ _; refine Ae ?_; intro O1) | (show AW _ _ (.cond _ _ _) _ _ _; first | refine Ai Y ?_ | refine Aj Y ?_) | (show AW _ _ (.skip) _ _ _; refine Ag ?_; first | show AW _ _ _ _ _ _ | show ∃ x', _ < _ ∧ _) | (show AW _ _ (.goto _) _ _ _; refine Bm ?_; try dsimp only [Ao, Aa, Am, Ab]) | (show AW _ _ (.ret) _ _ _; refine Ar ?_; try dsimp only [Ao, Aa, Am, Ab])
    | (show DL _ _ _ _ _ _ _; refine dl_d Y Y (fun K kt kf => Au hG Y Y Y Y Y kt kf) (fun h => ?_) (fun h => ?_))
    | (show DL _ _ _ _ _ _ _; refine dl_s Y Y Y ?_) | (show DL _ _ _ _ _ _ _; refine Bk ?_; first | show AW _ _ _ _ _ _ | show ∃ x', _ < _ ∧ _) | (show AW _ _ (.region _ _ true) _ _ _; refine Ba mix (by kernel_rfl) ?_; intro O1) | fail)
          refine ⟨rfl, ⟨[], b1, pre ++ [y], _, by simpa using hp, by simp only [List.length_cons, List.length_append, List.length_nil] at *; omega⟩, by simp only [List.length_cons]; omega, ?_, .refl _⟩
          exact .consW rfl (.eq (by simp [cT])) (.consW rfl (.eq (by simp [cT])) (.cons rfl (.cons rfl (.nil _))))
    | cons x a1 =>
      have n1 : (x :: a1).length = a1.length + 1 := rfl
      cases b' with
      | nil =>
        have n2 : ([] : List UInt16).length = 0 := rfl
        rw [mergeK] at hp
        have hk' := hk true false
        cases hkk : keep true false <;> rw [hkk] at hk' hp
        · repeat' (first
    | ((first | (show AL _ _ _ _ _ _ _ _; refine Ad Y ?_) | (show DL _ _ _ _ _ _ _; refine' Be Y Y (fun K kk => ?_) ?_; try (show Go.Ts.T; rotate_left))); (first
      | (show AOp _ _ ⟨_, .move _, _, _, _, _⟩ _ _ _; refine Aq hG Y Y ?_)
      | (show AOp _ _ ⟨_, .assign _, _, _, _, _⟩ _ _ _; refine Az hG Y Y ?_)
      | (show AOp _ _ ⟨_, .call ⟨.builtin .len, _, _⟩, _, _, _, _⟩ _ _ _; first | refine Bc hG Y Y Y Y ?_ | refine Bj hG Y Y Y Y Y ?_)
      | (show AOp _ _ ⟨_, .binOp .add _ _ _ _, _, _, _, _⟩ _ _ _; first | refine A3 hG Y Y Y Y Y (by omega) ?_)
      | (show AOp _ _ ⟨_, .binOp _ _ _ _ _, _, _, _, _⟩ _ _ _; first | refine Aw hG Y Y Y Y Y (by omega) ?_ | refine Av hG Y Y Y Y Y (by omega) ?_ | ((fail_if_success have := kk); refine Au hG Y Y Y Y Y (fun h => ?_) (fun h => ?_)))
      | (show AOp _ _ ⟨_, .load _ _, _, _, _, _⟩ _ _ _; first | refine Br hG Y Y Y ?_ | refine Ap 0 hG Y Y Y Y ?_)
      | (show AOp _ _ ⟨_, .indexAddr _ _ _, _, _, _, _⟩ _ _ _; first | refine r_idx0 hG Y Y Y Y Y Y Y ?_ | refine Bp hG Y Y Y Y Y Y Y (by omega) ?_ | refine Bq hG Y Y Y Y Y Y Y (by omega) ?_ | refine r_idx hG Y Y ?_)
      | (show AOp _ _ ⟨_, .slice _ _ _ _ _, _, _, _, _⟩ _ _ _; first | refine Bu hG Y Y Y Y Y Y Y (by omega) ?_ | refine B1 hG Y Y Y Y Y Y Y (by omega) ?_ | refine r_sl hG Y Y ?_)
      | (show AOp _ _ ⟨_, .pick _ _ _, _, _, _, _⟩ _ _ _; refine B2 hG Y Y Y ?_)
      | (show AOp _ _ ⟨_, .buildSlice _ _ _, _, _, _, _⟩ _ _ _; first | refine r_mk (sz := 1) hG Y Y Y Y Y Y Y ?_)
      | (show AOp _ _ ⟨_, .call ⟨.builtin .append, _, _⟩, _, _, _, _⟩ _ _ _; first | refine Bt (sz := 1) (xs := []) hG Y Y Y Y Y Y Y ⟨_, Y⟩ Y Y Y Y Y Y Y (by first | omega | (simp; omega)) (fun k => ?_) | refine Bv 0 hG Y Y Y Y Y Y Y ⟨_, Y⟩ Y Y Y Y Y (by first | omega | (simp only [List.length_append, List.length_cons, List.length_nil]; omega)) (fun k => ?_) | fail)
      | (show AOp _ _ ⟨_, .call ⟨.value _, _, _⟩, _, _, _, _⟩ _ _ _; first | refine A4 Y Y Y Y Y (by apply hk' <;> (first | assumption | omega | exact Ac _ _ | exact Ah _ | exact Ak _ _ | exact As _ | rfl | (simp; omega))) ?_ | fail)
      | refine r_q hG Y Y Y ?_); try exact kk)
    | (show AL _ _ _ _ _ _ _ _; first | refine A9 Y Y Y ?_ | (refine Al ?_; first | show AW _ _ _ _ _ _ | show ∃ x', _ < _ ∧ _)) | (show AW _ _ (.seq _ _) _ _ _; refine Af ?_; intro Q1) | (show AW _ _ (.region _ _ false) _ _ _; refine Ae ?_; intro O1) | (show AW _ _ (.cond _ _ _) _ _ _; first | refine Ai Y ?_ | refine Aj Y ?_) | (show AW _ _ (.skip) _ _ _; refine Ag ?_; first | show AW _ _ _ _ _ _ | show ∃ x', _ < _ ∧ _) | (show AW _ _ (.goto _) _ _ _; refine Bm ?_; try dsimp only [Ao, Aa, Am, Ab]) | (show AW _ _ (.ret) _ _ _; refine Ar ?_; try dsimp only [Ao, Aa, Am, Ab])
    | (show DL _ _ _ _ _ _ _; refine dl_d Y Y (fun K kt kf => Au hG Y Y Y Y Y kt kf) (fun h => ?_) (fun h => ?_))
    | (show DL _ _ _ _ _ _ _; refine dl_s Y Y Y ?_) | (show DL _ _ _ _ _ _ _; refine Bk ?_; first | show AW _ _ _ _ _ _ | show ∃ x', _ < _ ∧ _) | (show AW _ _ (.region _ _ true) _ _ _; refine Ba mix (by kernel_rfl) ?_; intro O1) | fail)
          refine ⟨rfl, ⟨a1, [], pre, k, hp, by simp only [List.length_cons] at *; omega⟩, by simp only [List.length_cons]; omega, ?_, .refl _⟩
          exact .consW rfl (.eq (by simp [cT])) (.consW rfl (.eq (by simp [cT])) (.cons rfl (.cons rfl (.nil _))))
        · repeat' (first
    | ((first | (show AL _ _ _ _ _ _ _ _; refine Ad Y ?_) | (show DL _ _ _ _ _ _ _; refine' Be Y Y (fun K kk => ?_) ?_; try (show Go.Ts.T; rotate_left))); (first
      | (show AOp _ _ ⟨_, .move _, _, _, _, _⟩ _ _ _; refine Aq hG Y Y ?_)
      | (show AOp _ _ ⟨_, .assign _, _, _, _, _⟩ _ _ _; refine Az hG Y Y ?_)
      | (show AOp _ _ ⟨_, .call ⟨.builtin .len, _, _⟩, _, _, _, _⟩ _ _ _; first | refine Bc hG Y Y Y Y ?_ | refine Bj hG Y Y Y Y Y ?_)
      | (show AOp _ _ ⟨_, .binOp .add _ _ _ _, _, _, _, _⟩ _ _ _; first | refine A3 hG Y Y Y Y Y (by omega) ?_)
      | (show AOp _ _ ⟨_, .binOp _ _ _ _ _, _, _, _, _⟩ _ _ _; first | refine Aw hG Y Y Y Y Y (by omega) ?_ | refine Av hG Y Y Y Y Y (by omega) ?_ | ((fail_if_success have := kk); refine Au hG Y Y Y Y Y (fun h => ?_) (fun h => ?_)))
      | (show AOp _ _ ⟨_, .load _ _, _, _, _, _⟩ _ _ _; first | refine Br hG Y Y Y ?_ | refine Ap 0 hG Y Y Y Y ?_)
      | (show AOp _ _ ⟨_, .indexAddr _ _ _, _, _, _, _⟩ _ _ _; first | refine r_idx0 hG Y Y Y Y Y Y Y ?_ | refine Bp hG Y Y Y Y Y Y Y (by omega) ?_ | refine Bq hG Y Y Y Y Y Y Y (by omega) ?_ | refine r_idx hG Y Y ?_)
      | (show AOp _ _ ⟨_, .slice _ _ _ _ _, _, _, _, _⟩ _ _ _; first | refine Bu hG Y Y Y Y Y Y Y (by omega) ?_ | refine B1 hG Y Y Y Y Y Y Y (by omega) ?_ | refine r_sl hG Y Y ?_)
      | (show AOp _ _ ⟨_, .pick _ _ _, _, _, _, _⟩ _ _ _; refine B2 hG Y Y Y ?_)
      | (show AOp _ _ ⟨_, .buildSlice _ _ _, _, _, _, _⟩ _ _ _; first | refine r_mk (sz := 1) hG Y Y Y Y Y Y Y ?_)
      | (show AOp _ _ ⟨_, .call ⟨.builtin .append, _, _⟩, _, _, _, _⟩ _ _ _; first | refine Bv 0 (ys := [x]) hG Y Y Y Y Y Y Y ⟨_, Y⟩ Y Y Y Y Y (by simp only [List.length_append, List.length_map, List.length_cons, List.length_nil]; omega) (fun k => ?_) | refine Bt (sz := 1) (xs := []) hG Y Y Y Y Y Y Y ⟨_, Y⟩ Y Y Y Y Y Y Y (by first | omega | (simp; omega)) (fun k => ?_) | refine Bv 0 hG Y Y Y Y Y Y Y ⟨_, Y⟩ Y Y Y Y Y (by first | omega | (simp only [List.length_append, List.length_cons, List.length_nil]; omega)) (fun k => ?_) | fail)
      | (show AOp _ _ ⟨_, .call ⟨.value _, _, _⟩, _, _, _, _⟩ _ _ _; first | refine A4 Y Y Y Y Y (by apply hk' <;> (first | assumption | omega | exact Ac _ _ | exact Ah _ | exact Ak _ _ | exact As _ | rfl | (simp; omega))) ?_ | fail)
      | refine r_q hG Y Y Y ?_); try exact kk)
    | (show AL _ _ _ _ _ _ _ _; first | refine A9 Y Y Y ?_ | (refine Al ?_; first | show AW _ _ _ _ _ _ | show ∃ x', _ < _ ∧ _)) | (show AW _ _ (.seq _ _) _ _ _; refine Af ?_; intro Q1) | (show AW _ _ (.region _ _ false) _ _ _; refine Ae ?_; intro O1) | (show AW _ _ (.cond _ _ _) _ _ _; first | refine Ai Y ?_ | refine Aj Y ?_) | (show AW _ _ (.skip) _ _ _; refine Ag ?_; first | show AW _ _ _ _ _ _ | show ∃ x', _ < _ ∧ _) | (show AW _ _ (.goto _) _ _ _; refine Bm ?_; try dsimp only [Ao, Aa, Am, Ab]) | (show AW _ _ (.ret) _ _ _; refine Ar ?_; try dsimp only [Ao, Aa, Am, Ab])
    | (show DL _ _ _ _ _ _ _; refine dl_d Y Y (fun K kt kf => Au hG Y Y Y Y Y kt kf) (fun h => ?_) (fun h => ?_))
    | (show DL _ _ _ _ _ _ _; refine dl_s Y Y Y ?_) | (show DL _ _ _ _ _ _ _; refine Bk ?_; first | show AW _ _ _ _ _ _ | show ∃ x', _ < _ ∧ _) | (show AW _ _ (.region _ _ true) _ _ _; refine Ba mix (by kernel_rfl) ?_; intro O1) | fail)
          refine ⟨rfl, ⟨a1, [], pre ++ [x], _, by simpa using hp, by simp only [List.length_cons, List.length_append, List.length_nil] at *; omega⟩, by simp only [List.length_cons]; omega, ?_, .refl _⟩
          exact .consW rfl (.eq (by simp [cT])) (.consW rfl (.eq (by simp [cT])) (.cons rfl (.cons rfl (.nil _))))
      | cons y b1 =>
        have n2 : (y :: b1).length = b1.length + 1 := rfl
        rw [mergeK] at hp
        by_cases h1 : x < y
        · rw [if_pos h1] at hp
          rw [← hT_lt] at h1
          have hk' := hk true false
          cases hkk : keep true false <;> rw [hkk] at hk' hp
          · repeat' (first
    | ((first | (show AL _ _ _ _ _ _ _ _; refine Ad Y ?_) | (show DL _ _ _ _ _ _ _; refine' Be Y Y (fun K kk => ?_) ?_; try (show Go.Ts.T; rotate_left))); (first
      | (show AOp _ _ ⟨_, .move _, _, _, _, _⟩ _ _ _; refine Aq hG Y Y ?_)
      | (show AOp _ _ ⟨_, .assign _, _, _, _, _⟩ _ _ _; refine Az hG Y Y ?_)
      | (show AOp _ _ ⟨_, .call ⟨.builtin .len, _, _⟩, _, _, _, _⟩ _ _ _; first | refine Bc hG Y Y Y Y ?_ | refine Bj hG Y Y Y Y Y ?_)
      | (show AOp _ _ ⟨_, .binOp .add _ _ _ _, _, _, _, _⟩ _ _ _; first | refine A3 hG Y Y Y Y Y (by omega) ?_)
      | (show AOp _ _ ⟨_, .binOp _ _ _ _ _, _, _, _, _⟩ _ _ _; first | refine Aw hG Y Y Y Y Y (by omega) ?_ | refine Av hG Y Y Y Y Y (by omega) ?_ | ((fail_if_success have := kk); refine Au hG Y Y Y Y Y (fun h => ?_) (fun h => ?_)))
      | (show AOp _ _ ⟨_, .load _ _, _, _, _, _⟩ _ _ _; first | refine Br hG Y Y Y ?_ | refine Ap 0 hG Y Y Y Y ?_)
      | (show AOp _ _ ⟨_, .indexAddr _ _ _, _, _, _, _⟩ _ _ _; first | refine r_idx0 hG Y Y Y Y Y Y Y ?_ | refine Bp hG Y Y Y Y Y Y Y (by omega) ?_ | refine Bq hG Y Y Y Y Y Y Y (by omega) ?_ | refine r_idx hG Y Y ?_)
      | (show AOp _ _ ⟨_, .slice _ _ _ _ _, _, _, _, _⟩ _ _ _; first | refine Bu hG Y Y Y Y Y Y Y (by omega) ?_ | refine B1 hG Y Y Y Y Y Y Y (by omega) ?_ | refine r_sl hG Y Y ?_)
      | (show AOp _ _ ⟨_, .pick _ _ _, _, _, _, _⟩ _ _ _; refine B2 hG Y Y Y ?_)
      | (show AOp _ _ ⟨_, .buildSlice _ _ _, _, _, _, _⟩ _ _ _; first | refine r_mk (sz := 1) hG Y Y Y Y Y Y Y ?_)
      | (show AOp _ _ ⟨_, .call ⟨.builtin .append, _, _⟩, _, _, _, _⟩ _ _ _; first | refine Bt (sz := 1) (xs := []) hG Y Y Y Y Y Y Y ⟨_, Y⟩ Y Y Y Y Y Y Y (by first | omega | (simp; omega)) (fun k => ?_) | refine Bv 0 hG Y Y Y Y Y Y Y ⟨_, Y⟩ Y Y Y Y Y (by first | omega | (simp only [List.length_append, List.length_cons, List.length_nil]; omega)) (fun k => ?_) | fail)
      | (show AOp _ _ ⟨_, .call ⟨.value _, _, _⟩, _, _, _, _⟩ _ _ _; first | refine A4 Y Y Y Y Y (by apply hk' <;> (first | assumption | omega | exact Ac _ _ | exact Ah _ | exact Ak _ _ | exact As _ | rfl | (simp; omega))) ?_ | fail)
      | refine r_q hG Y Y Y ?_); try exact kk)
    | (show AL _ _ _ _ _ _ _ _; first | refine A9 Y Y Y ?_ | (refine Al ?_; first | show AW _ _ _ _ _ _ | show ∃ x', _ < _ ∧ _)) | (show AW _ _ (.seq _ _) _ _ _; refine Af ?_; intro Q1) | (show AW _ _ (.region _ _ false) _ _ _; refine Ae ?_; intro O1) | (show AW _ _ (.cond _ _ _) _ _ _; first | refine Ai Y ?_ | refine Aj Y ?_) | (show AW _ _ (.skip) _ _ _; refine Ag ?_; first | show AW _ _ _ _ _ _ | show ∃ x', _ < _ ∧ _) | (show AW _ _ (.goto _) _ _ _; refine Bm ?_; try dsimp only [Ao, Aa, Am, Ab]) | (show AW _ _ (.ret) _ _ _; refine Ar ?_; try dsimp only [Ao, Aa, Am, Ab])
    | (show DL _ _ _ _ _ _ _; refine dl_d Y Y (fun K kt kf => Au hG Y Y Y Y Y kt kf) (fun h => ?_) (fun h => ?_))
    | (show DL _ _ _ _ _ _ _; refine dl_s Y Y Y ?_) | (show DL _ _ _ _ _ _ _; refine Bk ?_; first | show AW _ _ _ _ _ _ | show ∃ x', _ < _ ∧ _) | (show AW _ _ (.region _ _ true) _ _ _; refine Ba mix (by kernel_rfl) ?_; intro O1) | fail)
            refine ⟨rfl, ⟨a1, y :: b1, pre, k, hp, by simp only [List.length_cons] at *; omega⟩, by simp only [List.length_cons]; omega, ?_, .refl _⟩
            exact .consW rfl (.eq (by simp [cT])) (.consW rfl (.eq (by simp [cT])) (.cons rfl (.cons rfl (.nil _))))
          · repeat' (first
    | ((first | (show AL _ _ _ _ _ _ _ _; refine Ad Y ?_) | (show DL _ _ _ _ _ _ _; refine' Be Y Y (fun K kk => ?_) ?_; try (show Go.Ts.T; rotate_left))); (first
      | (show AOp _ _ ⟨_, .move _, _, _, _, _⟩ _ _ _; refine Aq hG Y Y ?_)
      | (show AOp _ _ ⟨_, .assign _, _, _, _, _⟩ _ _ _; refine Az hG Y Y ?_)
      | (show AOp _ _ ⟨_, .call ⟨.builtin .len, _, _⟩, _, _, _, _⟩ _ _ _; first | refine Bc hG Y Y Y Y ?_ | refine Bj hG Y Y Y Y Y ?_)
      | (show AOp _ _ ⟨_, .binOp .add _ _ _ _, _, _, _, _⟩ _ _ _; first | refine A3 hG Y Y Y Y Y (by omega) ?_)
      | (show AOp _ _ ⟨_, .binOp _ _ _ _ _, _, _, _, _⟩ _ _ _; first | refine Aw hG Y Y Y Y Y (by omega) ?_ | refine Av hG Y Y Y Y Y (by omega) ?_ | ((fail_if_success have := kk); refine Au hG Y Y Y Y Y (fun h => ?_) (fun h => ?_)))
      | (show AOp _ _ ⟨_, .load _ _, _, _, _, _⟩ _ _ _; first | refine Br hG Y Y Y ?_ | refine Ap 0 hG Y Y Y Y ?_)
      | (show AOp _ _ ⟨_, .indexAddr _ _ _, _, _, _, _⟩ _ _ _; first | refine r_idx0 hG Y Y Y Y Y Y Y ?_ | refine Bp hG Y Y Y Y Y Y Y (by omega) ?_ | refine Bq hG Y Y Y Y Y Y Y (by omega) ?_ | refine r_idx hG Y Y ?_)
      | (show AOp _ _ ⟨_, .slice _ _ _ _ _, _, _, _, _⟩ _ _ _; first | refine Bu hG Y Y Y Y Y Y Y (by omega) ?_ | refine B1 hG Y Y Y Y Y Y Y (by omega) ?_ | refine r_sl hG Y Y ?_)
      | (show AOp _ _ ⟨_, .pick _ _ _, _, _, _, _⟩ _ _ _; refine B2 hG Y Y Y ?_)
      | (show AOp _ _ ⟨_, .buildSlice _ _ _, _, _, _, _⟩ _ _ _; first | refine r_mk (sz := 1) hG Y Y Y Y Y Y Y ?_)
      | (show AOp _ _ ⟨_, .call ⟨.builtin .append, _, _⟩, _, _, _, _⟩ _ _ _; first | refine Bv 0 (ys := [x]) hG Y Y Y Y Y Y Y ⟨_, Y⟩ Y Y Y Y Y (by simp only [List.length_append, List.length_map, List.length_cons, List.length_nil]; omega) (fun k => ?_) | refine Bt (sz := 1) (xs := []) hG Y Y Y Y Y Y Y ⟨_, Y⟩ Y Y Y Y Y Y Y (by first | omega | (simp; omega)) (fun k => ?_) | refine Bv 0 hG Y Y Y Y Y Y Y ⟨_, Y⟩ Y Y Y Y Y (by first | omega | (simp only [List.length_append, List.length_cons, List.length_nil]; omega)) (fun k => ?_) | fail)
      | (show AOp _ _ ⟨_, .call ⟨.value _, _, _⟩, _, _, _, _⟩ _ _ _; first | refine A4 Y Y Y Y Y (by apply hk' <;> (first | assumption | omega | exact Ac _ _ | exact Ah _ | exact Ak _ _ | exact As _ | rfl | (simp; omega))) ?_ | fail)
      | refine r_q hG Y Y Y ?_); try exact kk)
    | (show AL _ _ _ _ _ _ _ _; first | refine A9 Y Y Y ?_ | (refine Al ?_; first | show AW _ _ _ _ _ _ | show ∃ x', _ < _ ∧ _)) | (show AW _ _ (.seq _ _) _ _ _; refine Af ?_; intro Q1) | (show AW _ _ (.region _ _ false) _ _ _; refine Ae ?_; intro O1) | (show AW _ _ (.cond _ _ _) _ _ _; first | refine Ai Y ?_ | refine Aj Y ?_) | (show AW _ _ (.skip) _ _ _; refine Ag ?_; first | show AW _ _ _ _ _ _ | show ∃ x', _ < _ ∧ _) | (show AW _ _ (.goto _) _ _ _; refine Bm ?_; try dsimp only [Ao, Aa, Am, Ab]) | (show AW _ _ (.ret) _ _ _; refine Ar ?_; try dsimp only [Ao, Aa, Am, Ab])
    | (show DL _ _ _ _ _ _ _; refine dl_d Y Y (fun K kt kf => Au hG Y Y Y Y Y kt kf) (fun h => ?_) (fun h => ?_))
    | (show DL _ _ _ _ _ _ _; refine dl_s Y Y Y ?_) | (show DL _ _ _ _ _ _ _; refine Bk ?_; first | show AW _ _ _ _ _ _ | show ∃ x', _ < _ ∧ _) | (show AW _ _ (.region _ _ true) _ _ _; refine Ba mix (by kernel_rfl) ?_; intro O1) | fail)
            refine ⟨rfl, ⟨a1, y :: b1, pre ++ [x], _, by simpa using hp, by simp only [List.length_cons, List.length_append, List.length_nil] at *; omega⟩, by simp only [List.length_cons]; omega, ?_, .refl _⟩
            exact .consW rfl (.eq (by simp [cT])) (.consW rfl (.eq (by simp [cT])) (.cons rfl (.cons rfl (.nil _))))
        · rw [if_neg h1] at hp
          rw [← hT_lt] at h1
          by_cases h2 : y < x
          · rw [if_pos h2] at hp
            rw [← hT_lt] at h2
            have hk' := hk false true
            cases hkk : keep false true <;> rw [hkk] at hk' hp
            · repeat' (first
    | ((first | (show AL _ _ _ _ _ _ _ _; refine Ad Y ?_) | (show DL _ _ _ _ _ _ _; refine' Be Y Y (fun K kk => ?_) ?_; try (show Go.Ts.T; rotate_left))); (first
      | (show AOp _ _ ⟨_, .move _, _, _, _, _⟩ _ _ _; refine Aq hG Y Y ?_)
      | (show AOp _ _ ⟨_, .assign _, _, _, _, _⟩ _ _ _; refine Az hG Y Y ?_)
      | (show AOp _ _ ⟨_, .call ⟨.builtin .len, _, _⟩, _, _, _, _⟩ _ _ _; first | refine Bc hG Y Y Y Y ?_ | refine Bj hG Y Y Y Y Y ?_)
      | (show AOp _ _ ⟨_, .binOp .add _ _ _ _, _, _, _, _⟩ _ _ _; first | refine A3 hG Y Y Y Y Y (by omega) ?_)
      | (show AOp _ _ ⟨_, .binOp _ _ _ _ _, _, _, _, _⟩ _ _ _; first | refine Aw hG Y Y Y Y Y (by omega) ?_ | refine Av hG Y Y Y Y Y (by omega) ?_ | ((fail_if_success have := kk); refine Au hG Y Y Y Y Y (fun h => ?_) (fun h => ?_)))
      | (show AOp _ _ ⟨_, .load _ _, _, _, _, _⟩ _ _ _; first | refine Br hG Y Y Y ?_ | refine Ap 0 hG Y Y Y Y ?_)
      | (show AOp _ _ ⟨_, .indexAddr _ _ _, _, _, _, _⟩ _ _ _; first | refine r_idx0 hG Y Y Y Y Y Y Y ?_ | refine Bp hG Y Y Y Y Y Y Y (by omega) ?_ | refine Bq hG Y Y Y Y Y Y Y (by omega) ?_ | refine r_idx hG Y Y ?_)
      | (show AOp _ _ ⟨_, .slice _ _ _ _ _, _, _, _, _⟩ _ _ _; first | refine Bu hG Y Y Y Y Y Y Y (by omega) ?_ | refine B1 hG Y Y Y Y Y Y Y (by omega) ?_ | refine r_sl hG Y Y ?_)
      | (show AOp _ _ ⟨_, .pick _ _ _, _, _, _, _⟩ _ _ _; refine B2 hG Y Y Y ?_)
      | (show AOp _ _ ⟨_, .buildSlice _ _ _, _, _, _, _⟩ _ _ _; first | refine r_mk (sz := 1) hG Y Y Y Y Y Y Y ?_)
      | (show AOp _ _ ⟨_, .call ⟨.builtin .append, _, _⟩, _, _, _, _⟩ _ _ _; first | refine Bt (sz := 1) (xs := []) hG Y Y Y Y Y Y Y ⟨_, Y⟩ Y Y Y Y Y Y Y (by first | omega | (simp; omega)) (fun k => ?_) | refine Bv 0 hG Y Y Y Y Y Y Y ⟨_, Y⟩ Y Y Y Y Y (by first | omega | (simp only [List.length_append, List.length_cons, List.length_nil]; omega)) (fun k => ?_) | fail)
      | (show AOp _ _ ⟨_, .call ⟨.value _, _, _⟩, _, _, _, _⟩ _ _ _; first | refine A4 Y Y Y Y Y (by apply hk' <;> (first | assumption | omega | exact Ac _ _ | exact Ah _ | exact Ak _ _ | exact As _ | rfl | (simp; omega))) ?_ | fail)
      | refine r_q hG Y Y Y ?_); try exact kk)
    | (show AL _ _ _ _ _ _ _ _; first | refine A9 Y Y Y ?_ | (refine Al ?_; first | show AW _ _ _ _ _ _ | show ∃ x', _ < _ ∧ _)) | (show AW _ _ (.seq _ _) _ _ _; refine Af ?_; intro Q1) | (show AW _ _ (.region _ _ false) _ _ _; refine Ae ?_; intro O1) | (show AW _ _ (.cond _ _ _) _ _ _; first | refine Ai Y ?_ | refine Aj Y ?_) | (show AW _ _ (.skip) _ _ _; refine Ag ?_; first | show AW _ _ _ _ _ _ | show ∃ x', _ < _ ∧ _) | (show AW _ _ (.goto _) _ _ _; refine Bm ?_; try dsimp only [Ao, Aa, Am, Ab]) | (show AW _ _ (.ret) _ _ _; refine Ar ?_; try dsimp only [Ao, Aa, Am, Ab])
    | (show DL _ _ _ _ _ _ _; refine dl_d Y Y (fun K kt kf => Au hG Y Y Y Y Y kt kf) (fun h => ?_) (fun h => ?_))
    | (show DL _ _ _ _ _ _ _; refine dl_s Y Y Y ?_) | (show DL _ _ _ _ _ _ _; refine Bk ?_; first | show AW _ _ _ _ _ _ | show ∃ x', _ < _ ∧ _) | (show AW _ _ (.region _ _ true) _ _ _; refine Ba mix (by kernel_rfl) ?_; intro O1) | fail)
              refine ⟨rfl, ⟨x :: a1, b1, pre, k, hp, by simp only [List.length_cons] at *; omega⟩, by simp only [List.length_cons]; omega, ?_, .refl _⟩
              exact .consW rfl (.eq (by simp [cT])) (.consW rfl (.eq (by simp [cT])) (.cons rfl (.cons rfl (.nil _))))
            · repeat' (first
    | ((first | (show AL _ _ _ _ _ _ _ _; refine Ad Y ?_) | (show DL _ _ _ _ _ _ _; refine' Be Y Y (fun K kk => ?_) ?_; try (show Go.Ts.T; rotate_left))); (first
      | (show AOp _ _ ⟨_, .move _, _, _, _, _⟩ _ _ _; refine Aq hG Y Y ?_)
      | (show AOp _ _ ⟨_, .assign _, _, _, _, _⟩ _ _ _; refine Az hG Y Y ?_)
      | (show AOp _ _ ⟨_, .call ⟨.builtin .len, _, _⟩, _, _, _, _⟩ _ _ _; first | refine Bc hG Y Y Y Y ?_ | refine Bj hG Y Y Y Y Y ?_)
      | (show AOp _ _ ⟨_, .binOp .add _ _ _ _, _, _, _, _⟩ _ _ _; first | refine A3 hG Y Y Y Y Y (by omega) ?_)
      | (show AOp _ _ ⟨_, .binOp _ _ _ _ _, _, _, _, _⟩ _ _ _; first | refine Aw hG Y Y Y Y Y (by omega) ?_ | refine Av hG Y Y Y Y Y (by omega) ?_ | ((fail_if_success have := kk); refine Au hG Y Y Y Y Y (fun h => ?_) (fun h => ?_)))
      | (show AOp _ _ ⟨_, .load _ _, _, _, _, _⟩ _ _ _; first | refine Br hG Y Y Y ?_ | refine Ap 0 hG Y Y Y Y ?_)
      | (show AOp _ _ ⟨_, .indexAddr _ _ _, _, _, _, _⟩ _ _ _; first | refine r_idx0 hG Y Y Y Y Y Y Y ?_ | refine Bp hG Y Y Y Y Y Y Y (by omega) ?_ | refine Bq hG Y Y Y Y Y Y Y (by omega) ?_ | refine r_idx hG Y Y ?_)
      | (show AOp _ _ ⟨_, .slice _ _ _ _ _, _, _, _, _⟩ _ _ _; first | refine Bu hG Y Y Y Y Y Y Y (by omega) ?_ | refine B1 hG Y Y Y Y Y Y Y (by omega) ?_ | refine r_sl hG Y Y ?_)
      | (show AOp _ _ ⟨_, .pick _ _ _, _, _, _, _⟩ _ _ _; refine B2 hG Y Y Y ?_)
      | (show AOp _ _ ⟨_, .buildSlice _ _ _, _, _, _, _⟩ _ _ _; first | refine r_mk (sz := 1) hG Y Y Y Y Y Y Y ?_)
      | (show AOp _ _ ⟨_, .call ⟨.builtin .append, _, _⟩, _, _, _, _⟩ _ _ _; first | refine Bv 0 (ys := [y]) hG Y Y Y Y Y Y Y ⟨_, Y⟩ Y Y Y Y Y (by simp only [List.length_append, List.length_map, List.length_cons, List.length_nil]; omega) (fun k => ?_) | refine Bt (sz := 1) (xs := []) hG Y Y Y Y Y Y Y ⟨_, Y⟩ Y Y Y Y Y Y Y (by first | omega | (simp; omega)) (fun k => ?_) | refine Bv 0 hG Y Y Y Y Y Y Y ⟨_, Y⟩ Y Y Y Y Y (by first | omega | (simp only [List.length_append, List.length_cons, List.length_nil]; omega)) (fun k => ?_) | fail)
      | (show AOp _ _ ⟨_, .call ⟨.value _, _, _⟩, _, _, _, _⟩ _ _ _; first | refine A4 Y Y Y Y Y (by apply hk' <;> (first | assumption | omega | exact Ac _ _ | exact Ah _ | exact Ak _ _ | exact As _ | rfl | (simp; omega))) ?_ | fail)
      | refine r_q hG Y Y Y ?_); try exact kk)
    | (show AL _ _ _ _ _ _ _ _; first | refine A9 Y Y Y ?_ | (refine Al ?_; first | show AW _ _ _ _ _ _ | show ∃ x', _ < _ ∧ _)) | (show AW _ _ (.seq _ _) _ _ _; refine Af ?_; intro Q1) | (show AW _ _ (.region _ _ false) _ _ _; refine Ae ?_; intro O1) | (show AW _ _ (.cond _ _ _) _ _ _; first | refine Ai Y ?_ | refine Aj Y ?_) | (show AW _ _ (.skip) _ _ _; refine Ag ?_; first | show AW _ _ _ _ _ _ | show ∃ x', _ < _ ∧ _) | (show AW _ _ (.goto _) _ _ _; refine Bm ?_; try dsimp only [Ao, Aa, Am, Ab]) | (show AW _ _ (.ret) _ _ _; refine Ar ?_; try dsimp only [Ao, Aa, Am, Ab])
    | (show DL _ _ _ _ _ _ _; refine dl_d Y Y (fun K kt kf => Au hG Y Y Y Y Y kt kf) (fun h => ?_) (fun h => ?_))
    | (show DL _ _ _ _ _ _ _; refine dl_s Y Y Y ?_) | (show DL _ _ _ _ _ _ _; refine Bk ?_; first | show AW _ _ _ _ _ _ | show ∃ x', _ < _ ∧ _) | (show AW _ _ (.region _ _ true) _ _ _; refine Ba mix (by kernel_rfl) ?_; intro O1) | fail)
              refine ⟨rfl, ⟨x :: a1, b1, pre ++ [y], _, by simpa using hp, by simp only [List.length_cons, List.length_append, List.length_nil] at *; omega⟩, by simp only [List.length_cons]; omega, ?_, .refl _⟩
              exact .consW rfl (.eq (by simp [cT])) (.consW rfl (.eq (by simp [cT])) (.cons rfl (.cons rfl (.nil _))))
          · rw [if_neg h2] at hp
            rw [← hT_lt] at h2
            have hk' := hk true true
            cases hkk : keep true true <;> rw [hkk] at hk' hp
            · repeat' (first
    | ((first | (show AL _ _ _ _ _ _ _ _; refine Ad Y ?_) | (show DL _ _ _ _ _ _ _; refine' Be Y Y (fun K kk => ?_) ?_; try (show Go.Ts.T; rotate_left))); (first
      | (show AOp _ _ ⟨_, .move _, _, _, _, _⟩ _ _ _; refine Aq hG Y Y ?_)
      | (show AOp _ _ ⟨_, .assign _, _, _, _, _⟩ _ _ _; refine Az hG Y Y ?_)
      | (show AOp _ _ ⟨_, .call ⟨.builtin .len, _, _⟩, _, _, _, _⟩ _ _ _; first | refine Bc hG Y Y Y Y ?_ | refine Bj hG Y Y Y Y Y ?_)
      | (show AOp _ _ ⟨_, .binOp .add _ _ _ _, _, _, _, _⟩ _ _ _; first | refine A3 hG Y Y Y Y Y (by omega) ?_)
      | (show AOp _ _ ⟨_, .binOp _ _ _ _ _, _, _, _, _⟩ _ _ _; first | refine Aw hG Y Y Y Y Y (by omega) ?_ | refine Av hG Y Y Y Y Y (by omega) ?_ | ((fail_if_success have := kk); refine Au hG Y Y Y Y Y (fun h => ?_) (fun h => ?_)))
      | (show AOp _ _ ⟨_, .load _ _, _, _, _, _⟩ _ _ _; first | refine Br hG Y Y Y ?_ | refine Ap 0 hG Y Y Y Y ?_)
      | (show AOp _ _ ⟨_, .indexAddr _ _ _, _, _, _, _⟩ _ _ _; first | refine r_idx0 hG Y Y Y Y Y Y Y ?_ | refine Bp hG Y Y Y Y Y Y Y (by omega) ?_ | refine Bq hG Y Y Y Y Y Y Y (by omega) ?_ | refine r_idx hG Y Y ?_)
      | (show AOp _ _ ⟨_, .slice _ _ _ _ _, _, _, _, _⟩ _ _ _; first | refine Bu hG Y Y Y Y Y Y Y (by omega) ?_ | refine B1 hG Y Y Y Y Y Y Y (by omega) ?_ | refine r_sl hG Y Y ?_)
      | (show AOp _ _ ⟨_, .pick _ _ _, _, _, _, _⟩ _ _ _; refine B2 hG Y Y Y ?_)
      | (show AOp _ _ ⟨_, .buildSlice _ _ _, _, _, _, _⟩ _ _ _; first | refine r_mk (sz := 1) hG Y Y Y Y Y Y Y ?_)
      | (show AOp _ _ ⟨_, .call ⟨.builtin .append, _, _⟩, _, _, _, _⟩ _ _ _; first | refine Bt (sz := 1) (xs := []) hG Y Y Y Y Y Y Y ⟨_, Y⟩ Y Y Y Y Y Y Y (by first | omega | (simp; omega)) (fun k => ?_) | refine Bv 0 hG Y Y Y Y Y Y Y ⟨_, Y⟩ Y Y Y Y Y (by first | omega | (simp only [List.length_append, List.length_cons, List.length_nil]; omega)) (fun k => ?_) | fail)
      | (show AOp _ _ ⟨_, .call ⟨.value _, _, _⟩, _, _, _, _⟩ _ _ _; first | refine A4 Y Y Y Y Y (by apply hk' <;> (first | assumption | omega | exact Ac _ _ | exact Ah _ | exact Ak _ _ | exact As _ | rfl | (simp; omega))) ?_ | fail)
      | refine r_q hG Y Y Y ?_); try exact kk)
    | (show AL _ _ _ _ _ _ _ _; first | refine A9 Y Y Y ?_ | (refine Al ?_; first | show AW _ _ _ _ _ _ | show ∃ x', _ < _ ∧ _)) | (show AW _ _ (.seq _ _) _ _ _; refine Af ?_; intro Q1) | (show AW _ _ (.region _ _ false) _ _ _; refine Ae ?_; intro O1) | (show AW _ _ (.cond _ _ _) _ _ _; first | refine Ai Y ?_ | refine Aj Y ?_) | (show AW _ _ (.skip) _ _ _; refine Ag ?_; first | show AW _ _ _ _ _ _ | show ∃ x', _ < _ ∧ _) | (show AW _ _ (.goto _) _ _ _; refine Bm ?_; try dsimp only [Ao, Aa, Am, Ab]) | (show AW _ _ (.ret) _ _ _; refine Ar ?_; try dsimp only [Ao, Aa, Am, Ab])
    | (show DL _ _ _ _ _ _ _; refine dl_d Y Y (fun K kt kf => Au hG Y Y Y Y Y kt kf) (fun h => ?_) (fun h => ?_))
    | (show DL _ _ _ _ _ _ _; refine dl_s Y Y Y ?_) | (show DL _ _ _ _ _ _ _; refine Bk ?_; first | show AW _ _ _ _ _ _ | show ∃ x', _ < _ ∧ _) | (show AW _ _ (.region _ _ true) _ _ _; refine Ba mix (by kernel_rfl) ?_; intro O1) | fail)
              refine ⟨rfl, ⟨a1, b1, pre, k, hp, by simp only [List.length_cons] at *; omega⟩, by simp only [List.length_cons]; omega, ?_, .refl _⟩
              exact .consW rfl (.eq (by simp [cT])) (.consW rfl (.eq (by simp [cT])) (.cons rfl (.cons rfl (.nil _))))
            · repeat' (first
    | ((first | (show AL _ _ _ _ _ _ _ _; refine Ad Y ?_) | (show DL _ _ _ _ _ _ _; refine' Be Y Y (fun K kk => ?_) ?_; try (show Go.Ts.T; rotate_left))); (first
      | (show AOp _ _ ⟨_, .move _, _, _, _, _⟩ _ _ _; refine Aq hG Y Y ?_)
      | (show AOp _ _ ⟨_, .assign _, _, _, _, _⟩ _ _ _; refine Az hG Y Y ?_)
      | (show AOp _ _ ⟨_, .call ⟨.builtin .len, _, _⟩, _, _, _, _⟩ _ _ _; first | refine Bc hG Y Y Y Y ?_ | refine Bj hG Y Y Y Y Y ?_)
      | (show AOp _ _ ⟨_, .binOp .add _ _ _ _, _, _, _, _⟩ _ _ _; first | refine A3 hG Y Y Y Y Y (by omega) ?_)
      | (show AOp _ _ ⟨_, .binOp _ _ _ _ _, _, _, _, _⟩ _ _ _; first | refine Aw hG Y Y Y Y Y (by omega) ?_ | refine Av hG Y Y Y Y Y (by omega) ?_ | ((fail_if_success have := kk); refine Au hG Y Y Y Y Y (fun h => ?_) (fun h => ?_)))
      | (show AOp _ _ ⟨_, .load _ _, _, _, _, _⟩ _ _ _; first | refine Br hG Y Y Y ?_ | refine Ap 0 hG Y Y Y Y ?_)
      | (show AOp _ _ ⟨_, .indexAddr _ _ _, _, _, _, _⟩ _ _ _; first | refine r_idx0 hG Y Y Y Y Y Y Y ?_ | refine Bp hG Y Y Y Y Y Y Y (by omega) ?_ | refine Bq hG Y Y Y Y Y Y Y (by omega) ?_ | refine r_idx hG Y Y ?_)
      | (show AOp _ _ ⟨_, .slice _ _ _ _ _, _, _, _, _⟩ _ _ _; first | refine Bu hG Y Y Y Y Y Y Y (by omega) ?_ | refine B1 hG Y Y Y Y Y Y Y (by omega) ?_ | refine r_sl hG Y Y ?_)
      | (show AOp _ _ ⟨_, .pick _ _ _, _, _, _, _⟩ _ _ _; refine B2 hG Y Y Y ?_)
      | (show AOp _ _ ⟨_, .buildSlice _ _ _, _, _, _, _⟩ _ _ _; first | refine r_mk (sz := 1) hG Y Y Y Y Y Y Y ?_)
      | (show AOp _ _ ⟨_, .call ⟨.builtin .append, _, _⟩, _, _, _, _⟩ _ _ _; first | refine Bv 0 (ys := [x]) hG Y Y Y Y Y Y Y ⟨_, Y⟩ Y Y Y Y Y (by simp only [List.length_append, List.length_map, List.length_cons, List.length_nil]; omega) (fun k => ?_) | refine Bt (sz := 1) (xs := []) hG Y Y Y Y Y Y Y ⟨_, Y⟩ Y Y Y Y Y Y Y (by first | omega | (simp; omega)) (fun k => ?_) | refine Bv 0 hG Y Y Y Y Y Y Y ⟨_, Y⟩ Y Y Y Y Y (by first | omega | (simp only [List.length_append, List.length_cons, List.length_nil]; omega)) (fun k => ?_) | fail)
      | (show AOp _ _ ⟨_, .call ⟨.value _, _, _⟩, _, _, _, _⟩ _ _ _; first | refine A4 Y Y Y Y Y (by apply hk' <;> (first | assumption | omega | exact Ac _ _ | exact Ah _ | exact Ak _ _ | exact As _ | rfl | (simp; omega))) ?_ | fail)
      | refine r_q hG Y Y Y ?_); try exact kk)
    | (show AL _ _ _ _ _ _ _ _; first | refine A9 Y Y Y ?_ | (refine Al ?_; first | show AW _ _ _ _ _ _ | show ∃ x', _ < _ ∧ _)) | (show AW _ _ (.seq _ _) _ _ _; refine Af ?_; intro Q1) | (show AW _ _ (.region _ _ false) _ _ _; refine Ae ?_; intro O1) | (show AW _ _ (.cond _ _ _) _ _ _; first | refine Ai Y ?_ | refine Aj Y ?_) | (show AW _ _ (.skip) _ _ _; refine Ag ?_; first | show AW _ _ _ _ _ _ | show ∃ x', _ < _ ∧ _) | (show AW _ _ (.goto _) _ _ _; refine Bm ?_; try dsimp only [Ao, Aa, Am, Ab]) | (show AW _ _ (.ret) _ _ _; refine Ar ?_; try dsimp only [Ao, Aa, Am, Ab])
    | (show DL _ _ _ _ _ _ _; refine dl_d Y Y (fun K kt kf => Au hG Y Y Y Y Y kt kf) (fun h => ?_) (fun h => ?_))
    | (show DL _ _ _ _ _ _ _; refine dl_s Y Y Y ?_) | (show DL _ _ _ _ _ _ _; refine Bk ?_; first | show AW _ _ _ _ _ _ | show ∃ x', _ < _ ∧ _) | (show AW _ _ (.region _ _ true) _ _ _; refine Ba mix (by kernel_rfl) ?_; intro O1) | fail)
              refine ⟨rfl, ⟨a1, b1, pre ++ [x], _, by simpa using hp, by simp only [List.length_cons, List.length_append, List.length_nil] at *; omega⟩, by simp only [List.length_cons]; omega, ?_, .refl _⟩
              exact .consW rfl (.eq (by simp [cT])) (.consW rfl (.eq (by simp [cT])) (.cons rfl (.cons rfl (.nil _))))
  · intro key
    repeat' (first
    | ((first | (show AL _ _ _ _ _ _ _ _; refine Ad Y ?_) | (show DL _ _ _ _ _ _ _; refine' Be Y Y (fun K kk => ?_) ?_; try (show Go.Ts.T; rotate_left))); (first
      | (show AOp _ _ ⟨_, .move _, _, _, _, _⟩ _ _ _; refine Aq hG Y Y ?_)
      | (show AOp _ _ ⟨_, .assign _, _, _, _, _⟩ _ _ _; refine Az hG Y Y ?_)
      | (show AOp _ _ ⟨_, .call ⟨.builtin .len, _, _⟩, _, _, _, _⟩ _ _ _; first | refine Bc hG Y Y Y Y ?_ | refine Bj hG Y Y Y Y Y ?_)
      | (show AOp _ _ ⟨_, .binOp .add _ _ _ _, _, _, _, _⟩ _ _ _; first | refine A3 hG Y Y Y Y Y (by omega) ?_)
      | (show AOp _ _ ⟨_, .binOp _ _ _ _ _, _, _, _, _⟩ _ _ _; first | refine Aw hG Y Y Y Y Y (by omega) ?_ | refine Av hG Y Y Y Y Y (by omega) ?_ | ((fail_if_success have := kk); refine Au hG Y Y Y Y Y (fun h => ?_) (fun h => ?_)))
      | (show AOp _ _ ⟨_, .load _ _, _, _, _, _⟩ _ _ _; first | refine Br hG Y Y Y ?_ | refine Ap 0 hG Y Y Y Y ?_)
      | (show AOp _ _ ⟨_, .indexAddr _ _ _, _, _, _, _⟩ _ _ _; first | refine r_idx0 hG Y Y Y Y Y Y Y ?_ | refine Bp hG Y Y Y Y Y Y Y (by omega) ?_ | refine Bq hG Y Y Y Y Y Y Y (by omega) ?_ | refine r_idx hG Y Y ?_)
      | (show AOp _ _ ⟨_, .slice _ _ _ _ _, _, _, _, _⟩ _ _ _; first | refine Bu hG Y Y Y Y Y Y Y (by omega) ?_ | refine B1 hG Y Y Y Y Y Y Y (by omega) ?_ | refine r_sl hG Y Y ?_)
      | (show AOp _ _ ⟨_, .pick _ _ _, _, _, _, _⟩ _ _ _; refine B2 hG Y Y Y ?_)
      | (show AOp _ _ ⟨_, .buildSlice _ _ _, _, _, _, _⟩ _ _ _; first | refine r_mk (sz := 1) hG Y Y Y Y Y Y Y ?_)
      | (show AOp _ _ ⟨_, .call ⟨.builtin .append, _, _⟩, _, _, _, _⟩ _ _ _; first | refine Bt (sz := 1) (xs := []) hG Y Y Y Y Y Y Y ⟨_, Y⟩ Y Y Y Y Y Y Y (by first | omega | (simp; omega)) (fun k => ?_) | refine Bv 0 hG Y Y Y Y Y Y Y ⟨_, Y⟩ Y Y Y Y Y (by first | omega | (simp only [List.length_append, List.length_cons, List.length_nil]; omega)) (fun k => ?_) | fail)
      | refine r_q hG Y Y Y ?_); try exact kk)
    | (show AL _ _ _ _ _ _ _ _; first | refine A9 Y Y Y ?_ | (refine Al ?_; first | show AW _ _ _ _ _ _ | show ∃ x', _ < _ ∧ _)) | (show AW _ _ (.seq _ _) _ _ _; refine Af ?_; intro Q1) | (show AW _ _ (.region _ _ false) _ _ _; refine Ae ?_; intro O1) | (show AW _ _ (.cond _ _ _) _ _ _; first | refine Ai Y ?_ | refine Aj Y ?_) | (show AW _ _ (.skip) _ _ _; refine Ag ?_; first | show AW _ _ _ _ _ _ | show ∃ x', _ < _ ∧ _) | (show AW _ _ (.goto _) _ _ _; refine Bm ?_; try dsimp only [Ao, Aa, Am, Ab]) | (show AW _ _ (.ret) _ _ _; refine Ar ?_; try dsimp only [Ao, Aa, Am, Ab])
    | (show DL _ _ _ _ _ _ _; refine dl_d Y Y (fun K kt kf => Au hG Y Y Y Y Y kt kf) (fun h => ?_) (fun h => ?_))
    | (show DL _ _ _ _ _ _ _; refine dl_s Y Y Y ?_) | (show DL _ _ _ _ _ _ _; refine Bk ?_; first | show AW _ _ _ _ _ _ | show ∃ x', _ < _ ∧ _) | (show AW _ _ (.region _ _ true) _ _ _; refine Ba mix (by kernel_rfl) ?_; intro O1) | fail)
    refine aw_label ?_
    show AW _ _ _ _ _ _
    refine aw_tok0 7 1 rfl rfl rfl rfl (fun k => ?_)
    refine aw_forget ?_ (key ⟨a, b, [], k, rfl, by simp⟩)
    exact .cons rfl (.cons rfl (.cons rfl (.cons rfl (.nil _))))
end Go.Proofs.Ytholeicgmkjadaa
namespace Go.Proofs.Ytholeicgmkjadaa
open Go.Ts Go.Sets
attribute [local irreducible] Go.Ts.AW Go.Ts.AOps Go.Ts.AL Go.Ts.AOp Go.Ts.ACalls Go.Ts.DL
theorem drop_tok {k : Nat} {R' : List Nat} {off : Nat → Nat → Prop} : Go.Ts.GStep ⟨[], k :: R', off, none⟩ ⟨[], [k], off, none⟩ :=
  keep_step (σ := ⟨[], k :: R', off, none⟩) (List.Sublist.refl _) (List.singleton_sublist.2 (by simp))
theorem num_Take_is {x : T} {b : List UInt8} {n e : Int} {v : Nat} (hx : bytesT x = some b) (h : takeE b n = (v, e)) : Pure Try.prog 48 [x, .int .i64 n] (.tup [.int .u64 v, .int .i64 e]) := by
  have := num_Take (n := n) hx; rw [h] at this; exact this
theorem rises_adj : ∀ l : List UInt16, risesB l = true ↔ ∀ j, j + 1 < l.length → l.getD j default < l.getD (j + 1) default
  | [] => by simp [risesB]
  | [x] => by simp [risesB]
  | x :: y :: r => by
    rw [risesB, Bool.and_eq_true, decide_eq_true_eq, rises_adj (y :: r)]
    constructor
    · rintro ⟨h1, h2⟩ j hj
      cases j with
      | zero => simpa using h1
      | succ j => have := h2 j (by simp at hj ⊢; omega); simpa using this
    · intro h
      refine ⟨by have := h 0 (by simp); simpa using this, fun j hj => ?_⟩
      have := h (j + 1) (by simp at hj ⊢; omega); simpa using this

theorem cats_Or1 (i t : Bool) : Pure Try.prog 77 [.bool i, .bool t] (.bool (kOr i t)) := by
  intro off
  refine A5 (N := 5) (rs := [.tmp 4]) hG Try.func77 rfl rfl rfl rfl rfl ?_
  repeat' (first
    | ((show AL _ _ _ _ _ _ _ _; refine Ad Y ?_); (first
      | (show AOp _ _ ⟨_, .assign _, _, _, _, _⟩ _ _ _; refine Az hG Y Y ?_)
      | refine r_q hG Y Y Y ?_))
    | (show AL _ _ _ _ _ _ _ _; first | refine A9 Y Y Y ?_ | (refine Al ?_; first | show AW _ _ _ _ _ _ | show ∃ x', _ < _ ∧ _)) | (show AW _ _ (.seq _ _) _ _ _; refine Af ?_; intro Q1) | (show AW _ _ (.region _ _ false) _ _ _; refine Ae ?_; intro O1) | (show AW _ _ (.ret) _ _ _; refine Ar ?_; try dsimp only [Ao, Aa, Am, Ab]) | fail)
  exact Bb (A1 rfl A0) (.refl _) rfl
theorem cats_Or {x y : T} {a b : List UInt16} (hx : catsT x = some a) (hy : catsT y = some b) (hl : a.length + b.length ≤ 4294967000) :
    Owns Try.prog 47 [x, y] 1 ((mergeK kOr a b).map hT) := by
  refine Owns.weak (us := [cT a, cT b]) ?_ (wk2 (catsT_wk hx) (catsT_wk hy))
  intro off
  refine A5 (N := 8) (rs := [.tmp 4]) hG Try.func47 rfl rfl rfl rfl rfl ?_
  have hc := merge_any cats_Or1 (As a) (As b) hl
  repeat' (first
    | ((show AL _ _ _ _ _ _ _ _; refine Ad Y ?_); (first
      | (show AOp _ _ ⟨_, .move _, _, _, _, _⟩ _ _ _; refine Aq hG Y Y ?_)
      | (show AOp _ _ ⟨_, .assign _, _, _, _, _⟩ _ _ _; refine Az hG Y Y ?_)
      | (show AOp _ _ ⟨_, .call ⟨.value _, _, _⟩, _, _, _, _⟩ _ _ _; first | (refine r_owns Y Y Y Y Y (by apply hc <;> (first | assumption | omega | exact Ac _ _ | exact Ah _ | exact Ak _ _ | exact As _ | rfl | (simp; omega))) (fun k => ?_)) | (have := kk; clear this; refine A4 Y Y Y Y Y (Owns.pure (by apply hc <;> (first | assumption | omega | exact Ac _ _ | exact Ah _ | exact Ak _ _ | exact As _ | rfl | (simp; omega)))) ?_) | fail)
      | refine r_q hG Y Y Y ?_))
    | (show AL _ _ _ _ _ _ _ _; first | refine A9 Y Y Y ?_ | (refine Al ?_; first | show AW _ _ _ _ _ _ | show ∃ x', _ < _ ∧ _)) | (show AW _ _ (.seq _ _) _ _ _; refine Af ?_; intro Q1) | (show AW _ _ (.region _ _ false) _ _ _; refine Ae ?_; intro O1) | (show AW _ _ (.ret) _ _ _; refine Ar ?_; try dsimp only [Ao, Aa, Am, Ab]) | fail)
  exact ret_owns 0 (A1 rfl A0) rfl rfl rfl

structure RiX (a : List UInt16) where
  i : Nat
  hi : 1 ≤ i
  hp : ∀ j, j + 1 < i → j + 1 < a.length → a.getD j default < a.getD (j + 1) default
theorem cats_rises {x : T} {a : List UInt16} (hx : catsT x = some a) (hl : a.length ≤ 140737488351232) : Pure Try.prog 73 [x] (.bool (risesB a)) := by
  refine Pure.weak (us := [cT a]) ?_ (wk1 (catsT_wk hx))
  intro off
  refine A5 (N := 20) (rs := [.tmp 2]) hG Try.func73 rfl rfl rfl rfl rfl ?_
  repeat' (first
    | ((first | (show AL _ _ _ _ _ _ _ _; refine Ad Y ?_) | (show DL _ _ _ _ _ _ _; refine' Be Y Y (fun K kk => ?_) ?_; try (show Go.Ts.T; rotate_left))); (first
      | (show AOp _ _ ⟨_, .move _, _, _, _, _⟩ _ _ _; refine Aq hG Y Y ?_)
      | (show AOp _ _ ⟨_, .assign _, _, _, _, _⟩ _ _ _; refine Az hG Y Y ?_)
      | (show AOp _ _ ⟨_, .call ⟨.builtin .len, _, _⟩, _, _, _, _⟩ _ _ _; first | refine Bc hG Y Y Y Y ?_ | refine Bj hG Y Y Y Y Y ?_)
      | (show AOp _ _ ⟨_, .binOp .add _ _ _ _, _, _, _, _⟩ _ _ _; first | refine A3 hG Y Y Y Y Y (by omega) ?_)
      | (show AOp _ _ ⟨_, .binOp .sub _ _ _ _, _, _, _, _⟩ _ _ _; first | refine A3 hG Y Y Y Y Y (by omega) ?_)
      | (show AOp _ _ ⟨_, .binOp _ _ _ _ _, _, _, _, _⟩ _ _ _; first | refine Aw hG Y Y Y Y Y (by omega) ?_ | refine Av hG Y Y Y Y Y (by omega) ?_ | ((fail_if_success have := kk); refine Au hG Y Y Y Y Y (fun h => ?_) (fun h => ?_)))
      | (show AOp _ _ ⟨_, .load _ _, _, _, _, _⟩ _ _ _; first | refine Br hG Y Y Y ?_ | refine Ap 0 hG Y Y Y Y ?_)
      | (show AOp _ _ ⟨_, .indexAddr _ _ _, _, _, _, _⟩ _ _ _; first | refine Bp hG Y Y Y Y Y Y Y (by omega) ?_ | refine Bq hG Y Y Y Y Y Y Y (by omega) ?_ | refine r_idx hG Y Y ?_)
      | refine r_q hG Y Y Y ?_); try exact kk)
    | (show AL _ _ _ _ _ _ _ _; first | refine A9 Y Y Y ?_ | (refine Al ?_; first | show AW _ _ _ _ _ _ | show ∃ x', _ < _ ∧ _)) | (show AW _ _ (.seq _ _) _ _ _; refine Af ?_; intro Q1) | (show AW _ _ (.region _ _ false) _ _ _; refine Ae ?_; intro O1) | (show AW _ _ (.cond _ _ _) _ _ _; first | refine Ai Y ?_ | refine Aj Y ?_) | (show AW _ _ (.skip) _ _ _; refine Ag ?_; first | show AW _ _ _ _ _ _ | show ∃ x', _ < _ ∧ _) | (show AW _ _ (.goto _) _ _ _; refine Bm ?_; try dsimp only [Ao, Aa, Am, Ab]) | (show AW _ _ (.ret) _ _ _; refine Ar ?_; try dsimp only [Ao, Aa, Am, Ab])
    | (show DL _ _ _ _ _ _ _; refine dl_d Y Y (fun K kt kf => Au hG Y Y Y Y Y kt kf) (fun h => ?_) (fun h => ?_))
    | (show DL _ _ _ _ _ _ _; refine dl_s Y Y Y ?_) | (show DL _ _ _ _ _ _ _; refine Bk ?_; first | show AW _ _ _ _ _ _ | show ∃ x', _ < _ ∧ _) | (show AW _ _ (.region _ _ true) _ _ _; refine Ba mix (by kernel_rfl) ?_; intro O1) | fail)
  refine aw_scope' 0 rfl (X := RiX a) (fun x => [(0, cT a), (3, .int .i64 x.i)]) (fun x => ⟨[], [], off, none⟩) (fun x => a.length - x.i) ?_ ?_
  · rintro ⟨i, hi, hp⟩
    dsimp only
    obtain ⟨i, rfl⟩ : ∃ j, i = j + 1 := ⟨i - 1, by omega⟩
    by_cases hib : i + 1 < a.length
    · have e : (((i + 1 : Nat) : Int) - 1).toNat = i := by omega
      repeat' (first
    | ((first | (show AL _ _ _ _ _ _ _ _; refine Ad Y ?_) | (show DL _ _ _ _ _ _ _; refine' Be Y Y (fun K kk => ?_) ?_; try (show Go.Ts.T; rotate_left))); (first
      | (show AOp _ _ ⟨_, .move _, _, _, _, _⟩ _ _ _; refine Aq hG Y Y ?_)
      | (show AOp _ _ ⟨_, .assign _, _, _, _, _⟩ _ _ _; refine Az hG Y Y ?_)
      | (show AOp _ _ ⟨_, .call ⟨.builtin .len, _, _⟩, _, _, _, _⟩ _ _ _; first | refine Bc hG Y Y Y Y ?_ | refine Bj hG Y Y Y Y Y ?_)
      | (show AOp _ _ ⟨_, .binOp .add _ _ _ _, _, _, _, _⟩ _ _ _; first | refine A3 hG Y Y Y Y Y (by omega) ?_)
      | (show AOp _ _ ⟨_, .binOp .sub _ _ _ _, _, _, _, _⟩ _ _ _; first | refine A3 hG Y Y Y Y Y (by omega) ?_)
      | (show AOp _ _ ⟨_, .binOp _ _ _ _ _, _, _, _, _⟩ _ _ _; first | refine Aw hG Y Y Y Y Y (by omega) ?_ | refine Av hG Y Y Y Y Y (by omega) ?_ | ((fail_if_success have := kk); refine Au hG Y Y Y Y Y (fun h => ?_) (fun h => ?_)))
      | (show AOp _ _ ⟨_, .load _ _, _, _, _, _⟩ _ _ _; first | refine Br hG Y Y Y ?_ | refine Ap 0 hG Y Y Y Y ?_)
      | (show AOp _ _ ⟨_, .indexAddr _ _ _, _, _, _, _⟩ _ _ _; first | refine Bp hG Y Y Y Y Y Y Y (by omega) ?_ | refine Bq hG Y Y Y Y Y Y Y (by omega) ?_ | refine r_idx hG Y Y ?_)
      | refine r_q hG Y Y Y ?_); try exact kk)
    | (show AL _ _ _ _ _ _ _ _; first | refine A9 Y Y Y ?_ | (refine Al ?_; first | show AW _ _ _ _ _ _ | show ∃ x', _ < _ ∧ _)) | (show AW _ _ (.seq _ _) _ _ _; refine Af ?_; intro Q1) | (show AW _ _ (.region _ _ false) _ _ _; refine Ae ?_; intro O1) | (show AW _ _ (.cond _ _ _) _ _ _; first | refine Ai Y ?_ | refine Aj Y ?_) | (show AW _ _ (.skip) _ _ _; refine Ag ?_; first | show AW _ _ _ _ _ _ | show ∃ x', _ < _ ∧ _) | (show AW _ _ (.goto _) _ _ _; refine Bm ?_; try dsimp only [Ao, Aa, Am, Ab]) | (show AW _ _ (.ret) _ _ _; refine Ar ?_; try dsimp only [Ao, Aa, Am, Ab])
    | (show DL _ _ _ _ _ _ _; refine dl_d Y Y (fun K kt kf => Au hG Y Y Y Y Y kt kf) (fun h => ?_) (fun h => ?_))
    | (show DL _ _ _ _ _ _ _; refine dl_s Y Y Y ?_) | (show DL _ _ _ _ _ _ _; refine Bk ?_; first | show AW _ _ _ _ _ _ | show ∃ x', _ < _ ∧ _) | (show AW _ _ (.region _ _ true) _ _ _; refine Ba mix (by kernel_rfl) ?_; intro O1) | fail)
      · rw [e] at h
        refine Bb (A1 rfl A0) (.eq ?_) rfl
        have : risesB a = false := Bool.eq_false_iff.2 fun hr => by
          have := (rises_adj a).1 hr i hib
          rw [UInt16.lt_iff_toNat_lt] at this; omega
        rw [this]; rfl
      · rw [e] at h
        refine ⟨rfl, ⟨i + 2, by omega, fun j h1 h2 => ?_⟩, by dsimp only; omega, ?_, .refl _⟩
        · by_cases hj : j + 1 < i + 1
          · exact hp j hj h2
          · obtain rfl : j = i := by omega
            rw [UInt16.lt_iff_toNat_lt]; omega
        · exact .cons rfl (.consW rfl (.int (by simp; omega)) (.nil _))
    · repeat' (first
    | ((first | (show AL _ _ _ _ _ _ _ _; refine Ad Y ?_) | (show DL _ _ _ _ _ _ _; refine' Be Y Y (fun K kk => ?_) ?_; try (show Go.Ts.T; rotate_left))); (first
      | (show AOp _ _ ⟨_, .move _, _, _, _, _⟩ _ _ _; refine Aq hG Y Y ?_)
      | (show AOp _ _ ⟨_, .assign _, _, _, _, _⟩ _ _ _; refine Az hG Y Y ?_)
      | (show AOp _ _ ⟨_, .call ⟨.builtin .len, _, _⟩, _, _, _, _⟩ _ _ _; first | refine Bc hG Y Y Y Y ?_ | refine Bj hG Y Y Y Y Y ?_)
      | (show AOp _ _ ⟨_, .binOp .add _ _ _ _, _, _, _, _⟩ _ _ _; first | refine A3 hG Y Y Y Y Y (by omega) ?_)
      | (show AOp _ _ ⟨_, .binOp .sub _ _ _ _, _, _, _, _⟩ _ _ _; first | refine A3 hG Y Y Y Y Y (by omega) ?_)
      | (show AOp _ _ ⟨_, .binOp _ _ _ _ _, _, _, _, _⟩ _ _ _; first | refine Aw hG Y Y Y Y Y (by omega) ?_ | refine Av hG Y Y Y Y Y (by omega) ?_ | ((fail_if_success have := kk); refine Au hG Y Y Y Y Y (fun h => ?_) (fun h => ?_)))
      | (show AOp _ _ ⟨_, .load _ _, _, _, _, _⟩ _ _ _; first | refine Br hG Y Y Y ?_ | refine Ap 0 hG Y Y Y Y ?_)
      | (show AOp _ _ ⟨_, .indexAddr _ _ _, _, _, _, _⟩ _ _ _; first | refine Bp hG Y Y Y Y Y Y Y (by omega) ?_ | refine Bq hG Y Y Y Y Y Y Y (by omega) ?_ | refine r_idx hG Y Y ?_)
      | refine r_q hG Y Y Y ?_); try exact kk)
    | (show AL _ _ _ _ _ _ _ _; first | refine A9 Y Y Y ?_ | (refine Al ?_; first | show AW _ _ _ _ _ _ | show ∃ x', _ < _ ∧ _)) | (show AW _ _ (.seq _ _) _ _ _; refine Af ?_; intro Q1) | (show AW _ _ (.region _ _ false) _ _ _; refine Ae ?_; intro O1) | (show AW _ _ (.cond _ _ _) _ _ _; first | refine Ai Y ?_ | refine Aj Y ?_) | (show AW _ _ (.skip) _ _ _; refine Ag ?_; first | show AW _ _ _ _ _ _ | show ∃ x', _ < _ ∧ _) | (show AW _ _ (.goto _) _ _ _; refine Bm ?_; try dsimp only [Ao, Aa, Am, Ab]) | (show AW _ _ (.ret) _ _ _; refine Ar ?_; try dsimp only [Ao, Aa, Am, Ab])
    | (show DL _ _ _ _ _ _ _; refine dl_d Y Y (fun K kt kf => Au hG Y Y Y Y Y kt kf) (fun h => ?_) (fun h => ?_))
    | (show DL _ _ _ _ _ _ _; refine dl_s Y Y Y ?_) | (show DL _ _ _ _ _ _ _; refine Bk ?_; first | show AW _ _ _ _ _ _ | show ∃ x', _ < _ ∧ _) | (show AW _ _ (.region _ _ true) _ _ _; refine Ba mix (by kernel_rfl) ?_; intro O1) | fail)
      refine Bb (A1 rfl A0) (.eq ?_) rfl
      have : risesB a = true := (rises_adj a).2 fun j hj => hp j (by omega) hj
      rw [this]; rfl
  · intro key
    repeat' (first
    | ((first | (show AL _ _ _ _ _ _ _ _; refine Ad Y ?_) | (show DL _ _ _ _ _ _ _; refine' Be Y Y (fun K kk => ?_) ?_; try (show Go.Ts.T; rotate_left))); (first
      | (show AOp _ _ ⟨_, .move _, _, _, _, _⟩ _ _ _; refine Aq hG Y Y ?_)
      | (show AOp _ _ ⟨_, .assign _, _, _, _, _⟩ _ _ _; refine Az hG Y Y ?_)
      | (show AOp _ _ ⟨_, .call ⟨.builtin .len, _, _⟩, _, _, _, _⟩ _ _ _; first | refine Bc hG Y Y Y Y ?_ | refine Bj hG Y Y Y Y Y ?_)
      | (show AOp _ _ ⟨_, .binOp .add _ _ _ _, _, _, _, _⟩ _ _ _; first | refine A3 hG Y Y Y Y Y (by omega) ?_)
      | (show AOp _ _ ⟨_, .binOp .sub _ _ _ _, _, _, _, _⟩ _ _ _; first | refine A3 hG Y Y Y Y Y (by omega) ?_)
      | (show AOp _ _ ⟨_, .binOp _ _ _ _ _, _, _, _, _⟩ _ _ _; first | refine Aw hG Y Y Y Y Y (by omega) ?_ | refine Av hG Y Y Y Y Y (by omega) ?_ | ((fail_if_success have := kk); refine Au hG Y Y Y Y Y (fun h => ?_) (fun h => ?_)))
      | (show AOp _ _ ⟨_, .load _ _, _, _, _, _⟩ _ _ _; first | refine Br hG Y Y Y ?_ | refine Ap 0 hG Y Y Y Y ?_)
      | (show AOp _ _ ⟨_, .indexAddr _ _ _, _, _, _, _⟩ _ _ _; first | refine Bp hG Y Y Y Y Y Y Y (by omega) ?_ | refine Bq hG Y Y Y Y Y Y Y (by omega) ?_ | refine r_idx hG Y Y ?_)
      | refine r_q hG Y Y Y ?_); try exact kk)
    | (show AL _ _ _ _ _ _ _ _; first | refine A9 Y Y Y ?_ | (refine Al ?_; first | show AW _ _ _ _ _ _ | show ∃ x', _ < _ ∧ _)) | (show AW _ _ (.seq _ _) _ _ _; refine Af ?_; intro Q1) | (show AW _ _ (.region _ _ false) _ _ _; refine Ae ?_; intro O1) | (show AW _ _ (.cond _ _ _) _ _ _; first | refine Ai Y ?_ | refine Aj Y ?_) | (show AW _ _ (.skip) _ _ _; refine Ag ?_; first | show AW _ _ _ _ _ _ | show ∃ x', _ < _ ∧ _) | (show AW _ _ (.goto _) _ _ _; refine Bm ?_; try dsimp only [Ao, Aa, Am, Ab]) | (show AW _ _ (.ret) _ _ _; refine Ar ?_; try dsimp only [Ao, Aa, Am, Ab])
    | (show DL _ _ _ _ _ _ _; refine dl_d Y Y (fun K kt kf => Au hG Y Y Y Y Y kt kf) (fun h => ?_) (fun h => ?_))
    | (show DL _ _ _ _ _ _ _; refine dl_s Y Y Y ?_) | (show DL _ _ _ _ _ _ _; refine Bk ?_; first | show AW _ _ _ _ _ _ | show ∃ x', _ < _ ∧ _) | (show AW _ _ (.region _ _ true) _ _ _; refine Ba mix (by kernel_rfl) ?_; intro O1) | fail)
    refine aw_label ?_
    show AW _ _ _ _ _ _
    refine aw_forget ?_ (key ⟨1, by omega, fun j h1 h2 => by omega⟩)
    exact .cons rfl (.consW rfl (.int rfl) (.nil _))
def mayC (a : List UInt16) : Bool := decide (a.length ≤ 16) && risesB a
theorem cats_May {x : T} {a : List UInt16} (hx : catsT x = some a) (hl : a.length ≤ 140737488351232) : Pure Try.prog 44 [x] (.bool (mayC a)) := by
  refine Pure.weak (us := [cT a]) ?_ (wk1 (catsT_wk hx))
  intro off
  refine A5 (N := 10) (rs := [.tmp 2]) hG Try.func44 rfl rfl rfl rfl rfl ?_
  by_cases h : a.length ≤ 16
  · repeat' (first
    | ((show AL _ _ _ _ _ _ _ _; refine Ad Y ?_); (first
      | (show AOp _ _ ⟨_, .move _, _, _, _, _⟩ _ _ _; refine Aq hG Y Y ?_)
      | (show AOp _ _ ⟨_, .assign _, _, _, _, _⟩ _ _ _; refine Az hG Y Y ?_)
      | (show AOp _ _ ⟨_, .call ⟨.builtin .len, _, _⟩, _, _, _, _⟩ _ _ _; first | refine Bc hG Y Y Y Y ?_ | refine Bj hG Y Y Y Y Y ?_)
      | (show AOp _ _ ⟨_, .binOp _ _ _ _ _, _, _, _, _⟩ _ _ _; first | refine Aw hG Y Y Y Y Y (by omega) ?_ | refine Av hG Y Y Y Y Y (by omega) ?_ | (refine Au hG Y Y Y Y Y (fun h => ?_) (fun h => ?_)))
      | (show AOp _ _ ⟨_, .pick _ _ _, _, _, _, _⟩ _ _ _; refine B2 hG Y Y Y ?_)
      | (show AOp _ _ ⟨_, .call ⟨.value _, _, _⟩, _, _, _, _⟩ _ _ _; first | refine A4 Y Y Y Y Y (by apply cats_rises <;> (first | assumption | omega | exact Ac _ _ | exact Ah _ | exact Ak _ _ | exact As _ | rfl | (simp; omega))) ?_ | fail)
      | refine r_q hG Y Y Y ?_))
    | (show AL _ _ _ _ _ _ _ _; first | refine A9 Y Y Y ?_ | (refine Al ?_; first | show AW _ _ _ _ _ _ | show ∃ x', _ < _ ∧ _)) | (show AW _ _ (.seq _ _) _ _ _; refine Af ?_; intro Q1) | (show AW _ _ (.region _ _ false) _ _ _; refine Ae ?_; intro O1) | (show AW _ _ (.ret) _ _ _; refine Ar ?_; try dsimp only [Ao, Aa, Am, Ab]) | fail)
    exact Bb (A1 rfl A0) (.eq (by simp [mayC, h, tup1])) rfl
  · repeat' (first
    | ((show AL _ _ _ _ _ _ _ _; refine Ad Y ?_); (first
      | (show AOp _ _ ⟨_, .move _, _, _, _, _⟩ _ _ _; refine Aq hG Y Y ?_)
      | (show AOp _ _ ⟨_, .assign _, _, _, _, _⟩ _ _ _; refine Az hG Y Y ?_)
      | (show AOp _ _ ⟨_, .call ⟨.builtin .len, _, _⟩, _, _, _, _⟩ _ _ _; first | refine Bc hG Y Y Y Y ?_ | refine Bj hG Y Y Y Y Y ?_)
      | (show AOp _ _ ⟨_, .binOp _ _ _ _ _, _, _, _, _⟩ _ _ _; first | refine Aw hG Y Y Y Y Y (by omega) ?_ | refine Av hG Y Y Y Y Y (by omega) ?_ | (refine Au hG Y Y Y Y Y (fun h => ?_) (fun h => ?_)))
      | (show AOp _ _ ⟨_, .pick _ _ _, _, _, _, _⟩ _ _ _; refine B2 hG Y Y Y ?_)
      | (show AOp _ _ ⟨_, .call ⟨.value _, _, _⟩, _, _, _, _⟩ _ _ _; first | refine A4 Y Y Y Y Y (by apply cats_rises <;> (first | assumption | omega | exact Ac _ _ | exact Ah _ | exact Ak _ _ | exact As _ | rfl | (simp; omega))) ?_ | fail)
      | refine r_q hG Y Y Y ?_))
    | (show AL _ _ _ _ _ _ _ _; first | refine A9 Y Y Y ?_ | (refine Al ?_; first | show AW _ _ _ _ _ _ | show ∃ x', _ < _ ∧ _)) | (show AW _ _ (.seq _ _) _ _ _; refine Af ?_; intro Q1) | (show AW _ _ (.region _ _ false) _ _ _; refine Ae ?_; intro O1) | (show AW _ _ (.ret) _ _ _; refine Ar ?_; try dsimp only [Ao, Aa, Am, Ab]) | fail)
    refine Bb (A1 rfl A0) (.eq ?_) rfl
    rw [mayC, decide_eq_false h]; rfl

def putC (b : List UInt8) (a : List UInt16) : List UInt8 := b ++ putI a.length 1 ++ a.flatMap fun c => putI c.toNat 2
theorem flat2_length (l : List UInt16) : (l.flatMap fun c => putI c.toNat 2).length = 2 * l.length := by
  induction l with
  | nil => rfl
  | cons x l ih =>
    have : (putI x.toNat 2).length = 2 := by rw [putI, if_pos (by omega), be_length]; rfl
    rw [List.flatMap_cons, List.length_append, ih, this, List.length_cons]; omega
theorem flatMap_take {α β : Type} [Inhabited α] (l : List α) (f : α → List β) (i : Nat) (h : i < l.length) : (l.take (i + 1)).flatMap f = (l.take i).flatMap f ++ f (l.getD i default) := by
  rw [take_getD l i h, List.flatMap_append]; simp
structure CPX (a : List UInt16) where
  i : Nat
  k : Nat
  hi : i ≤ a.length
theorem cats_Put {x y : T} {b : List UInt8} {a : List UInt16} (hx : bytesT x = some b) (hy : catsT y = some a) (hl : b.length ≤ 4294000000) (hs : a.length ≤ 70000) :
    Owns Try.prog 23 [x, y] 1 ((putC b a).map bT) := by
  refine Owns.weak (us := [sT b, cT a]) ?_ (wk2 (bytesT_wk hx) (catsT_wk hy))
  intro off
  refine A5 (N := 25) (rs := [.tmp 4]) hG Try.func23 rfl rfl rfl rfl rfl ?_
  have hpl := putI_le a.length 1
  repeat' (first
    | ((show AL _ _ _ _ _ _ _ _; refine Ad Y ?_); (first
      | (show AOp _ _ ⟨_, .move _, _, _, _, _⟩ _ _ _; refine Aq hG Y Y ?_)
      | (show AOp _ _ ⟨_, .assign _, _, _, _, _⟩ _ _ _; refine Az hG Y Y ?_)
      | (show AOp _ _ ⟨_, .call ⟨.builtin .len, _, _⟩, _, _, _, _⟩ _ _ _; first | refine Bc hG Y Y Y Y ?_ | refine Bj hG Y Y Y Y Y ?_)
      | (show AOp _ _ ⟨_, .binOp .add _ _ _ _, _, _, _, _⟩ _ _ _; first | refine A3 hG Y Y Y Y Y (by omega) ?_)
      | (show AOp _ _ ⟨_, .binOp _ _ _ _ _, _, _, _, _⟩ _ _ _; first | refine Aw hG Y Y Y Y Y (by omega) ?_ | refine Av hG Y Y Y Y Y (by omega) ?_ | (refine Au hG Y Y Y Y Y (fun h => ?_) (fun h => ?_)))
      | (show AOp _ _ ⟨_, .load _ _, _, _, _, _⟩ _ _ _; first | refine Br hG Y Y Y ?_ | refine Ap 0 hG Y Y Y Y ?_)
      | (show AOp _ _ ⟨_, .indexAddr _ _ _, _, _, _, _⟩ _ _ _; first | refine Bp hG Y Y Y Y Y Y Y (by omega) ?_ | refine Bq hG Y Y Y Y Y Y Y (by omega) ?_ | refine r_idx hG Y Y ?_)
      | (show AOp _ _ ⟨_, .convert _ _ _, _, _, _, _⟩ _ _ _; first | refine r_cv16 hG Y Y Y Y Y Y ?_ | refine Bz hG Y Y Y Y Y (by omega) ?_ | refine Bh hG Y Y Y Y Y ?_)
      | (show AOp _ _ ⟨_, .call ⟨.value _, _, _⟩, _, _, _, _⟩ _ _ _; first | (refine r_owns Y Y Y Y Y (by apply num_Put <;> (first | assumption | omega | exact Ac _ _ | exact Ah _ | exact Ak _ _ | exact As _ | rfl | (simp; omega))) (fun k => ?_)) | (have := kk; clear this; refine A4 Y Y Y Y Y (Owns.pure (by apply num_Put <;> (first | assumption | omega | exact Ac _ _ | exact Ah _ | exact Ak _ _ | exact As _ | rfl | (simp; omega)))) ?_) | fail)
      | refine r_q hG Y Y Y ?_))
    | (show AL _ _ _ _ _ _ _ _; first | refine A9 Y Y Y ?_ | (refine Al ?_; first | show AW _ _ _ _ _ _ | show ∃ x', _ < _ ∧ _)) | (show AW _ _ (.seq _ _) _ _ _; refine Af ?_; intro Q1) | (show AW _ _ (.region _ _ false) _ _ _; refine Ae ?_; intro O1) | (show AW _ _ (.cond _ _ _) _ _ _; first | refine Ai Y ?_ | refine Aj Y ?_) | (show AW _ _ (.skip) _ _ _; refine Ag ?_; first | show AW _ _ _ _ _ _ | show ∃ x', _ < _ ∧ _) | (show AW _ _ (.block _ _) _ _ _; refine Ax ?_; intro Q1) | (show AW _ _ (.exit _) _ _ _; refine B5 ?_; first | show AW _ _ _ _ _ _ | show ∃ x', _ < _ ∧ _) | (show AW _ _ (.ret) _ _ _; refine Ar ?_; try dsimp only [Ao, Aa, Am, Ab]) | fail)
  refine aw_loop (X := CPX a) (fun x => [(13, cT a), (14, .int .i64 a.length), (15, .int .i64 x.i), (5, .sl 1 (.tok x.k) ((b ++ putI a.length 1 ++ (a.take x.i).flatMap fun c => putI c.toNat 2).map bT))]) (fun x => ⟨[], [x.k], off, none⟩) (fun x => a.length - x.i) ⟨0, _, Nat.zero_le _⟩ ?_ (.refl _) ?_
  · exact .cons rfl (.cons rfl (.consW rfl (.int rfl) (.consW rfl (.eq (by simp)) (.nil _))))
  rintro ⟨i, k, hi⟩
  dsimp only
  have hf := flat2_length (a.take i)
  have htl : (a.take i).length = i := by rw [List.length_take]; omega
  by_cases hib : i < a.length
  · have hft := flatMap_take a (fun c => putI c.toNat 2) i hib
    have hlen : (b ++ putI a.length 1 ++ (a.take i).flatMap fun c => putI c.toNat 2).length ≤ 4294967000 := by rw [List.length_append, List.length_append]; omega
    repeat' (first
    | ((show AL _ _ _ _ _ _ _ _; refine Ad Y ?_); (first
      | (show AOp _ _ ⟨_, .move _, _, _, _, _⟩ _ _ _; refine Aq hG Y Y ?_)
      | (show AOp _ _ ⟨_, .assign _, _, _, _, _⟩ _ _ _; refine Az hG Y Y ?_)
      | (show AOp _ _ ⟨_, .call ⟨.builtin .len, _, _⟩, _, _, _, _⟩ _ _ _; first | refine Bc hG Y Y Y Y ?_ | refine Bj hG Y Y Y Y Y ?_)
      | (show AOp _ _ ⟨_, .binOp .add _ _ _ _, _, _, _, _⟩ _ _ _; first | refine A3 hG Y Y Y Y Y (by omega) ?_)
      | (show AOp _ _ ⟨_, .binOp _ _ _ _ _, _, _, _, _⟩ _ _ _; first | refine Aw hG Y Y Y Y Y (by omega) ?_ | refine Av hG Y Y Y Y Y (by omega) ?_ | (refine Au hG Y Y Y Y Y (fun h => ?_) (fun h => ?_)))
      | (show AOp _ _ ⟨_, .load _ _, _, _, _, _⟩ _ _ _; first | refine Br hG Y Y Y ?_ | refine Ap 0 hG Y Y Y Y ?_)
      | (show AOp _ _ ⟨_, .indexAddr _ _ _, _, _, _, _⟩ _ _ _; first | refine Bp hG Y Y Y Y Y Y Y (by omega) ?_ | refine Bq hG Y Y Y Y Y Y Y (by omega) ?_ | refine r_idx hG Y Y ?_)
      | (show AOp _ _ ⟨_, .convert _ _ _, _, _, _, _⟩ _ _ _; first | refine r_cv16 hG Y Y Y Y Y Y ?_ | refine Bz hG Y Y Y Y Y (by omega) ?_ | refine Bh hG Y Y Y Y Y ?_)
      | (show AOp _ _ ⟨_, .call ⟨.value _, _, _⟩, _, _, _, _⟩ _ _ _; first | (refine r_owns Y Y Y Y Y (by apply num_Put <;> (first | assumption | omega | exact Ac _ _ | exact Ah _ | exact Ak _ _ | exact As _ | rfl | (simp; omega))) (fun k => ?_)) | (have := kk; clear this; refine A4 Y Y Y Y Y (Owns.pure (by apply num_Put <;> (first | assumption | omega | exact Ac _ _ | exact Ah _ | exact Ak _ _ | exact As _ | rfl | (simp; omega)))) ?_) | fail)
      | refine r_q hG Y Y Y ?_))
    | (show AL _ _ _ _ _ _ _ _; first | refine A9 Y Y Y ?_ | (refine Al ?_; first | show AW _ _ _ _ _ _ | show ∃ x', _ < _ ∧ _)) | (show AW _ _ (.seq _ _) _ _ _; refine Af ?_; intro Q1) | (show AW _ _ (.region _ _ false) _ _ _; refine Ae ?_; intro O1) | (show AW _ _ (.cond _ _ _) _ _ _; first | refine Ai Y ?_ | refine Aj Y ?_) | (show AW _ _ (.skip) _ _ _; refine Ag ?_; first | show AW _ _ _ _ _ _ | show ∃ x', _ < _ ∧ _) | (show AW _ _ (.block _ _) _ _ _; refine Ax ?_; intro Q1) | (show AW _ _ (.exit _) _ _ _; refine B5 ?_; first | show AW _ _ _ _ _ _ | show ∃ x', _ < _ ∧ _) | (show AW _ _ (.ret) _ _ _; refine Ar ?_; try dsimp only [Ao, Aa, Am, Ab]) | fail)
    refine ⟨⟨i + 1, _, by omega⟩, by dsimp only; omega, ?_, drop_tok⟩
    exact .cons rfl (.cons rfl (.consW rfl (.int (by simp)) (.consW rfl (.eq (by rw [hft]; simp)) (.nil _))))
  · obtain rfl : i = a.length := by omega
    repeat' (first
    | ((show AL _ _ _ _ _ _ _ _; refine Ad Y ?_); (first
      | (show AOp _ _ ⟨_, .move _, _, _, _, _⟩ _ _ _; refine Aq hG Y Y ?_)
      | (show AOp _ _ ⟨_, .assign _, _, _, _, _⟩ _ _ _; refine Az hG Y Y ?_)
      | (show AOp _ _ ⟨_, .call ⟨.builtin .len, _, _⟩, _, _, _, _⟩ _ _ _; first | refine Bc hG Y Y Y Y ?_ | refine Bj hG Y Y Y Y Y ?_)
      | (show AOp _ _ ⟨_, .binOp .add _ _ _ _, _, _, _, _⟩ _ _ _; first | refine A3 hG Y Y Y Y Y (by omega) ?_)
      | (show AOp _ _ ⟨_, .binOp _ _ _ _ _, _, _, _, _⟩ _ _ _; first | refine Aw hG Y Y Y Y Y (by omega) ?_ | refine Av hG Y Y Y Y Y (by omega) ?_ | (refine Au hG Y Y Y Y Y (fun h => ?_) (fun h => ?_)))
      | (show AOp _ _ ⟨_, .load _ _, _, _, _, _⟩ _ _ _; first | refine Br hG Y Y Y ?_ | refine Ap 0 hG Y Y Y Y ?_)
      | (show AOp _ _ ⟨_, .indexAddr _ _ _, _, _, _, _⟩ _ _ _; first | refine Bp hG Y Y Y Y Y Y Y (by omega) ?_ | refine Bq hG Y Y Y Y Y Y Y (by omega) ?_ | refine r_idx hG Y Y ?_)
      | (show AOp _ _ ⟨_, .convert _ _ _, _, _, _, _⟩ _ _ _; first | refine r_cv16 hG Y Y Y Y Y Y ?_ | refine Bz hG Y Y Y Y Y (by omega) ?_ | refine Bh hG Y Y Y Y Y ?_)
      | refine r_q hG Y Y Y ?_))
    | (show AL _ _ _ _ _ _ _ _; first | refine A9 Y Y Y ?_ | (refine Al ?_; first | show AW _ _ _ _ _ _ | show ∃ x', _ < _ ∧ _)) | (show AW _ _ (.seq _ _) _ _ _; refine Af ?_; intro Q1) | (show AW _ _ (.region _ _ false) _ _ _; refine Ae ?_; intro O1) | (show AW _ _ (.cond _ _ _) _ _ _; first | refine Ai Y ?_ | refine Aj Y ?_) | (show AW _ _ (.skip) _ _ _; refine Ag ?_; first | show AW _ _ _ _ _ _ | show ∃ x', _ < _ ∧ _) | (show AW _ _ (.block _ _) _ _ _; refine Ax ?_; intro Q1) | (show AW _ _ (.exit _) _ _ _; refine B5 ?_; first | show AW _ _ _ _ _ _ | show ∃ x', _ < _ ∧ _) | (show AW _ _ (.ret) _ _ _; refine Ar ?_; try dsimp only [Ao, Aa, Am, Ab]) | fail)
    exact ret_owns 0 (A1 rfl A0) rfl (by rw [putC, List.take_length]) rfl

def Bd (b : List UInt8) : List UInt16 × Nat × Int :=
  if b.length < 1 then ([], 0, 3)
  else if b.length < 1 + 2 * beV (b.take 1) then ([], 0, 3)
  else if mayC ((List.range (beV (b.take 1))).map fun i => UInt16.ofNat (beV ((b.drop (1 + 2 * i)).take 2))) then
    ((List.range (beV (b.take 1))).map fun i => UInt16.ofNat (beV ((b.drop (1 + 2 * i)).take 2)), 1 + 2 * beV (b.take 1), 0)
  else ([], 0, 2)
def tcT (r : List UInt16 × Nat × Int) : T := .tup [cT r.1, .int .i64 r.2.1, .int .i64 r.2.2]
theorem takeE1 (b : List UInt8) : takeE b 1 = if b.length < 1 then (0, 3) else (beV (b.take 1), 0) := by
  unfold takeE
  rw [if_neg (by omega)]
  by_cases h : b.length < 1
  · rw [if_pos (by omega), if_pos h]
  · rw [if_neg (by omega), if_neg h]; rfl
theorem beV1 (b : List UInt8) (h : 1 ≤ b.length) : beV (b.take 1) < 256 := by have := beV_lt 1 (b.take 1) (by simp; omega); simpa using this
theorem hT_of (v : Nat) (h : v < 65536) : T.int .u16 (v : Int) = hT (UInt16.ofNat v) := by
  unfold hT; congr 1
  simp [UInt16.toNat_ofNat']; omega
structure TCX (n : Nat) where
  i : Nat
  k : Nat
  hi : i ≤ n
theorem cats_Take {x : T} {b : List UInt8} (hx : bytesT x = some b) (hl : b.length ≤ 4294967296) : Pure Try.prog 21 [x] (tcT (Bd b)) := by
  refine Pure.weak (us := [sT b]) ?_ (wk1 (bytesT_wk hx))
  intro off
  refine A5 (N := 50) (rs := [.tmp 2, .tmp 3, .tmp 4]) hG Try.func21 rfl rfl rfl rfl rfl ?_
  have hT1 := takeE1 b
  by_cases h1 : b.length < 1
  · rw [if_pos h1] at hT1
    have hr : Bd b = ([], 0, 3) := by rw [Bd, if_pos h1]
    have hc := num_Take_is (Ah b) hT1
    rw [hr]
    repeat' (first
    | ((show AL _ _ _ _ _ _ _ _; refine Ad Y ?_); (first
      | (show AOp _ _ ⟨_, .move _, _, _, _, _⟩ _ _ _; refine Aq hG Y Y ?_)
      | (show AOp _ _ ⟨_, .assign _, _, _, _, _⟩ _ _ _; refine Az hG Y Y ?_)
      | (show AOp _ _ ⟨_, .call ⟨.builtin .len, _, _⟩, _, _, _, _⟩ _ _ _; first | refine Bc hG Y Y Y Y ?_ | refine Bj hG Y Y Y Y Y ?_)
      | (show AOp _ _ ⟨_, .binOp .add _ _ _ _, _, _, _, _⟩ _ _ _; first | refine A3 hG Y Y Y Y Y (by omega) ?_)
      | (show AOp _ _ ⟨_, .binOp .mul _ _ _ _, _, _, _, _⟩ _ _ _; first | refine A3 hG Y Y Y Y Y (by omega) ?_)
      | (show AOp _ _ ⟨_, .binOp _ _ _ _ _, _, _, _, _⟩ _ _ _; first | refine Aw hG Y Y Y Y Y (by omega) ?_ | refine Av hG Y Y Y Y Y (by omega) ?_ | (refine Au hG Y Y Y Y Y (fun h => ?_) (fun h => ?_)))
      | (show AOp _ _ ⟨_, .convert _ _ _, _, _, _, _⟩ _ _ _; first | refine A7 hG Y Y Y Y Y (by omega) ?_ | refine r_cv_u16 hG Y Y Y Y Y (by omega) ?_ | refine Bh hG Y Y Y Y Y ?_)
      | (show AOp _ _ ⟨_, .slice _ _ _ _ _, _, _, _, _⟩ _ _ _; first | refine Bu hG Y Y Y Y Y Y Y (by omega) ?_ | refine B1 hG Y Y Y Y Y Y Y (by omega) ?_ | refine r_sl hG Y Y ?_)
      | (show AOp _ _ ⟨_, .unOp _ _ _, _, _, _, _⟩ _ _ _; refine r_not hG Y Y Y ?_)
      | (show AOp _ _ ⟨_, .buildSlice _ _ _, _, _, _, _⟩ _ _ _; first | refine r_mk (sz := 1) hG Y Y Y Y Y Y Y ?_)
      | (show AOp _ _ ⟨_, .call ⟨.builtin .append, _, _⟩, _, _, _, _⟩ _ _ _; first | refine Bt (sz := 1) (xs := []) hG Y Y Y Y Y Y Y ⟨_, Y⟩ Y Y Y Y Y Y Y (by first | omega | (simp; omega)) (fun k => ?_) | refine Bv 0 hG Y Y Y Y Y Y Y ⟨_, Y⟩ Y Y Y Y Y (by first | omega | (simp only [List.length_append, List.length_cons, List.length_nil]; omega)) (fun k => ?_) | fail)
      | (show AOp _ _ ⟨_, .call ⟨.value _, _, _⟩, _, _, _, _⟩ _ _ _; first | refine A4 Y Y Y Y Y (by apply hc <;> (first | assumption | omega | exact Ac _ _ | exact Ah _ | exact Ak _ _ | exact As _ | rfl | (simp; omega))) ?_ | fail)
      | refine r_q hG Y Y Y ?_))
    | (show AL _ _ _ _ _ _ _ _; first | refine A9 Y Y Y ?_ | (refine Al ?_; first | show AW _ _ _ _ _ _ | show ∃ x', _ < _ ∧ _)) | (show AW _ _ (.seq _ _) _ _ _; refine Af ?_; intro Q1) | (show AW _ _ (.region _ _ false) _ _ _; refine Ae ?_; intro O1) | (show AW _ _ (.cond _ _ _) _ _ _; first | refine Ai Y ?_ | refine Aj Y ?_) | (show AW _ _ (.skip) _ _ _; refine Ag ?_; first | show AW _ _ _ _ _ _ | show ∃ x', _ < _ ∧ _) | (show AW _ _ (.block _ _) _ _ _; refine Ax ?_; intro Q1) | (show AW _ _ (.exit _) _ _ _; refine B5 ?_; first | show AW _ _ _ _ _ _ | show ∃ x', _ < _ ∧ _) | (show AW _ _ (.ret) _ _ _; refine Ar ?_; try dsimp only [Ao, Aa, Am, Ab]) | fail)
    exact Bb (A1 rfl (A1 rfl (A1 rfl A0))) (Wk.tupL (wk3 (.nil 1) (.refl _) (.refl _))) rfl
  rw [if_neg h1] at hT1
  have hv := beV1 b (by omega)
  have hc := num_Take_is (Ah b) hT1
  generalize hn : beV (b.take 1) = n at *
  by_cases h2 : b.length < 1 + 2 * n
  · have hr : Bd b = ([], 0, 3) := by rw [Bd, if_neg h1, hn, if_pos h2]
    rw [hr]
    repeat' (first
    | ((show AL _ _ _ _ _ _ _ _; refine Ad Y ?_); (first
      | (show AOp _ _ ⟨_, .move _, _, _, _, _⟩ _ _ _; refine Aq hG Y Y ?_)
      | (show AOp _ _ ⟨_, .assign _, _, _, _, _⟩ _ _ _; refine Az hG Y Y ?_)
      | (show AOp _ _ ⟨_, .call ⟨.builtin .len, _, _⟩, _, _, _, _⟩ _ _ _; first | refine Bc hG Y Y Y Y ?_ | refine Bj hG Y Y Y Y Y ?_)
      | (show AOp _ _ ⟨_, .binOp .add _ _ _ _, _, _, _, _⟩ _ _ _; first | refine A3 hG Y Y Y Y Y (by omega) ?_)
      | (show AOp _ _ ⟨_, .binOp .mul _ _ _ _, _, _, _, _⟩ _ _ _; first | refine A3 hG Y Y Y Y Y (by omega) ?_)
      | (show AOp _ _ ⟨_, .binOp _ _ _ _ _, _, _, _, _⟩ _ _ _; first | refine Aw hG Y Y Y Y Y (by omega) ?_ | refine Av hG Y Y Y Y Y (by omega) ?_ | (refine Au hG Y Y Y Y Y (fun h => ?_) (fun h => ?_)))
      | (show AOp _ _ ⟨_, .convert _ _ _, _, _, _, _⟩ _ _ _; first | refine A7 hG Y Y Y Y Y (by omega) ?_ | refine r_cv_u16 hG Y Y Y Y Y (by omega) ?_ | refine Bh hG Y Y Y Y Y ?_)
      | (show AOp _ _ ⟨_, .slice _ _ _ _ _, _, _, _, _⟩ _ _ _; first | refine Bu hG Y Y Y Y Y Y Y (by omega) ?_ | refine B1 hG Y Y Y Y Y Y Y (by omega) ?_ | refine r_sl hG Y Y ?_)
      | (show AOp _ _ ⟨_, .unOp _ _ _, _, _, _, _⟩ _ _ _; refine r_not hG Y Y Y ?_)
      | (show AOp _ _ ⟨_, .buildSlice _ _ _, _, _, _, _⟩ _ _ _; first | refine r_mk (sz := 1) hG Y Y Y Y Y Y Y ?_)
      | (show AOp _ _ ⟨_, .call ⟨.builtin .append, _, _⟩, _, _, _, _⟩ _ _ _; first | refine Bt (sz := 1) (xs := []) hG Y Y Y Y Y Y Y ⟨_, Y⟩ Y Y Y Y Y Y Y (by first | omega | (simp; omega)) (fun k => ?_) | refine Bv 0 hG Y Y Y Y Y Y Y ⟨_, Y⟩ Y Y Y Y Y (by first | omega | (simp only [List.length_append, List.length_cons, List.length_nil]; omega)) (fun k => ?_) | fail)
      | (show AOp _ _ ⟨_, .call ⟨.value _, _, _⟩, _, _, _, _⟩ _ _ _; first | refine A4 Y Y Y Y Y (by apply hc <;> (first | assumption | omega | exact Ac _ _ | exact Ah _ | exact Ak _ _ | exact As _ | rfl | (simp; omega))) ?_ | fail)
      | refine r_q hG Y Y Y ?_))
    | (show AL _ _ _ _ _ _ _ _; first | refine A9 Y Y Y ?_ | (refine Al ?_; first | show AW _ _ _ _ _ _ | show ∃ x', _ < _ ∧ _)) | (show AW _ _ (.seq _ _) _ _ _; refine Af ?_; intro Q1) | (show AW _ _ (.region _ _ false) _ _ _; refine Ae ?_; intro O1) | (show AW _ _ (.cond _ _ _) _ _ _; first | refine Ai Y ?_ | refine Aj Y ?_) | (show AW _ _ (.skip) _ _ _; refine Ag ?_; first | show AW _ _ _ _ _ _ | show ∃ x', _ < _ ∧ _) | (show AW _ _ (.block _ _) _ _ _; refine Ax ?_; intro Q1) | (show AW _ _ (.exit _) _ _ _; refine B5 ?_; first | show AW _ _ _ _ _ _ | show ∃ x', _ < _ ∧ _) | (show AW _ _ (.ret) _ _ _; refine Ar ?_; try dsimp only [Ao, Aa, Am, Ab]) | fail)
    exact Bb (A1 rfl (A1 rfl (A1 rfl A0))) (Wk.tupL (wk3 (.nil 1) (.refl _) (.refl _))) rfl
  generalize hg : (fun i => UInt16.ofNat (beV ((b.drop (1 + 2 * i)).take 2))) = g
  have hr : Bd b = if mayC ((List.range n).map g) then ((List.range n).map g, 1 + 2 * n, 0) else ([], 0, 2) := by rw [Bd, if_neg h1, hn, if_neg h2, hg]
  rw [hr]
  repeat' (first
    | ((show AL _ _ _ _ _ _ _ _; refine Ad Y ?_); (first
      | (show AOp _ _ ⟨_, .move _, _, _, _, _⟩ _ _ _; refine Aq hG Y Y ?_)
      | (show AOp _ _ ⟨_, .assign _, _, _, _, _⟩ _ _ _; refine Az hG Y Y ?_)
      | (show AOp _ _ ⟨_, .call ⟨.builtin .len, _, _⟩, _, _, _, _⟩ _ _ _; first | refine Bc hG Y Y Y Y ?_ | refine Bj hG Y Y Y Y Y ?_)
      | (show AOp _ _ ⟨_, .binOp .add _ _ _ _, _, _, _, _⟩ _ _ _; first | refine A3 hG Y Y Y Y Y (by omega) ?_)
      | (show AOp _ _ ⟨_, .binOp .mul _ _ _ _, _, _, _, _⟩ _ _ _; first | refine A3 hG Y Y Y Y Y (by omega) ?_)
      | (show AOp _ _ ⟨_, .binOp _ _ _ _ _, _, _, _, _⟩ _ _ _; first | refine Aw hG Y Y Y Y Y (by omega) ?_ | refine Av hG Y Y Y Y Y (by omega) ?_ | (refine Au hG Y Y Y Y Y (fun h => ?_) (fun h => ?_)))
      | (show AOp _ _ ⟨_, .convert _ _ _, _, _, _, _⟩ _ _ _; first | refine A7 hG Y Y Y Y Y (by omega) ?_ | refine r_cv_u16 hG Y Y Y Y Y (by omega) ?_ | refine Bh hG Y Y Y Y Y ?_)
      | (show AOp _ _ ⟨_, .slice _ _ _ _ _, _, _, _, _⟩ _ _ _; first | refine Bu hG Y Y Y Y Y Y Y (by omega) ?_ | refine B1 hG Y Y Y Y Y Y Y (by omega) ?_ | refine r_sl hG Y Y ?_)
      | (show AOp _ _ ⟨_, .unOp _ _ _, _, _, _, _⟩ _ _ _; refine r_not hG Y Y Y ?_)
      | (show AOp _ _ ⟨_, .buildSlice _ _ _, _, _, _, _⟩ _ _ _; first | refine r_mk (sz := 1) hG Y Y Y Y Y Y Y ?_)
      | (show AOp _ _ ⟨_, .call ⟨.builtin .append, _, _⟩, _, _, _, _⟩ _ _ _; first | refine Bt (sz := 1) (xs := []) hG Y Y Y Y Y Y Y ⟨_, Y⟩ Y Y Y Y Y Y Y (by first | omega | (simp; omega)) (fun k => ?_) | refine Bv 0 hG Y Y Y Y Y Y Y ⟨_, Y⟩ Y Y Y Y Y (by first | omega | (simp only [List.length_append, List.length_cons, List.length_nil]; omega)) (fun k => ?_) | fail)
      | (show AOp _ _ ⟨_, .call ⟨.value _, _, _⟩, _, _, _, _⟩ _ _ _; first | refine A4 Y Y Y Y Y (by apply hc <;> (first | assumption | omega | exact Ac _ _ | exact Ah _ | exact Ak _ _ | exact As _ | rfl | (simp; omega))) ?_ | fail)
      | refine r_q hG Y Y Y ?_))
    | (show AL _ _ _ _ _ _ _ _; first | refine A9 Y Y Y ?_ | (refine Al ?_; first | show AW _ _ _ _ _ _ | show ∃ x', _ < _ ∧ _)) | (show AW _ _ (.seq _ _) _ _ _; refine Af ?_; intro Q1) | (show AW _ _ (.region _ _ false) _ _ _; refine Ae ?_; intro O1) | (show AW _ _ (.cond _ _ _) _ _ _; first | refine Ai Y ?_ | refine Aj Y ?_) | (show AW _ _ (.skip) _ _ _; refine Ag ?_; first | show AW _ _ _ _ _ _ | show ∃ x', _ < _ ∧ _) | (show AW _ _ (.block _ _) _ _ _; refine Ax ?_; intro Q1) | (show AW _ _ (.exit _) _ _ _; refine B5 ?_; first | show AW _ _ _ _ _ _ | show ∃ x', _ < _ ∧ _) | (show AW _ _ (.ret) _ _ _; refine Ar ?_; try dsimp only [Ao, Aa, Am, Ab]) | fail)
  refine aw_tok0 2 1 rfl rfl rfl rfl (fun k => ?_)
  refine aw_loop (X := TCX n) (fun x => [(0, sT b), (3, .int .i64 (1 + 2 * (n : Int))), (26, .int .i64 n), (27, .int .i64 x.i), (2, .sl 1 (.tok x.k) (((List.range x.i).map g).map hT))]) (fun x => ⟨[], [x.k], off, none⟩) (fun x => n - x.i) ⟨0, k, Nat.zero_le _⟩ ?_ (.refl _) ?_
  · exact .cons rfl (.cons rfl (.cons rfl (.consW rfl (.int rfl) (.consW rfl (.eq (by simp)) (.nil _)))))
  rintro ⟨i, k, hi⟩
  dsimp only
  have hrl : (List.range i).length = i := List.length_range
  by_cases hib : i < n
  · have e : ((1 : Int) + 2 * (i : Int)).toNat = 1 + 2 * i := by omega
    have hd : (b.drop ((1 : Int) + 2 * (i : Int)).toNat).length = b.length - (1 + 2 * i) := by rw [List.length_drop, e]
    have hc2 := takeE2 (b.drop ((1 : Int) + 2 * (i : Int)).toNat)
    rw [if_neg (by omega)] at hc2
    have hc3 := num_Take_is (Ah _) hc2
    have hw := beV2 (b.drop ((1 : Int) + 2 * (i : Int)).toNat) (by omega)
    have hgi : UInt16.ofNat (beV ((b.drop ((1 : Int) + 2 * (i : Int)).toNat).take 2)) = g i := by rw [← hg, e]
    generalize beV ((b.drop ((1 : Int) + 2 * (i : Int)).toNat).take 2) = v at *
    have ht := hT_of v hw
    rw [hgi] at ht
    repeat' (first
    | ((show AL _ _ _ _ _ _ _ _; refine Ad Y ?_); (first
      | (show AOp _ _ ⟨_, .move _, _, _, _, _⟩ _ _ _; refine Aq hG Y Y ?_)
      | (show AOp _ _ ⟨_, .assign _, _, _, _, _⟩ _ _ _; refine Az hG Y Y ?_)
      | (show AOp _ _ ⟨_, .call ⟨.builtin .len, _, _⟩, _, _, _, _⟩ _ _ _; first | refine Bc hG Y Y Y Y ?_ | refine Bj hG Y Y Y Y Y ?_)
      | (show AOp _ _ ⟨_, .binOp .add _ _ _ _, _, _, _, _⟩ _ _ _; first | refine A3 hG Y Y Y Y Y (by omega) ?_)
      | (show AOp _ _ ⟨_, .binOp .mul _ _ _ _, _, _, _, _⟩ _ _ _; first | refine A3 hG Y Y Y Y Y (by omega) ?_)
      | (show AOp _ _ ⟨_, .binOp _ _ _ _ _, _, _, _, _⟩ _ _ _; first | refine Aw hG Y Y Y Y Y (by omega) ?_ | refine Av hG Y Y Y Y Y (by omega) ?_ | (refine Au hG Y Y Y Y Y (fun h => ?_) (fun h => ?_)))
      | (show AOp _ _ ⟨_, .convert _ _ _, _, _, _, _⟩ _ _ _; first | refine A7 hG Y Y Y Y Y (by omega) ?_ | refine r_cv_u16 hG Y Y Y Y Y (by omega) ?_ | refine Bh hG Y Y Y Y Y ?_)
      | (show AOp _ _ ⟨_, .slice _ _ _ _ _, _, _, _, _⟩ _ _ _; first | refine Bu hG Y Y Y Y Y Y Y (by omega) ?_ | refine B1 hG Y Y Y Y Y Y Y (by omega) ?_ | refine r_sl hG Y Y ?_)
      | (show AOp _ _ ⟨_, .unOp _ _ _, _, _, _, _⟩ _ _ _; refine r_not hG Y Y Y ?_)
      | (show AOp _ _ ⟨_, .buildSlice _ _ _, _, _, _, _⟩ _ _ _; first | refine r_mk (sz := 1) hG Y Y Y Y Y Y Y ?_)
      | (show AOp _ _ ⟨_, .call ⟨.builtin .append, _, _⟩, _, _, _, _⟩ _ _ _; first | refine Bt (sz := 1) (xs := []) hG Y Y Y Y Y Y Y ⟨_, Y⟩ Y Y Y Y Y Y Y (by first | omega | (simp; omega)) (fun k => ?_) | refine Bv 0 hG Y Y Y Y Y Y Y ⟨_, Y⟩ Y Y Y Y Y (by first | omega | (simp only [List.length_append, List.length_cons, List.length_nil]; omega)) (fun k => ?_) | fail)
      | (show AOp _ _ ⟨_, .call ⟨.value _, _, _⟩, _, _, _, _⟩ _ _ _; first | refine A4 Y Y Y Y Y (by apply hc3 <;> (first | assumption | omega | exact Ac _ _ | exact Ah _ | exact Ak _ _ | exact As _ | rfl | (simp; omega))) ?_ | fail)
      | refine r_q hG Y Y Y ?_))
    | (show AL _ _ _ _ _ _ _ _; first | refine A9 Y Y Y ?_ | (refine Al ?_; first | show AW _ _ _ _ _ _ | show ∃ x', _ < _ ∧ _)) | (show AW _ _ (.seq _ _) _ _ _; refine Af ?_; intro Q1) | (show AW _ _ (.region _ _ false) _ _ _; refine Ae ?_; intro O1) | (show AW _ _ (.cond _ _ _) _ _ _; first | refine Ai Y ?_ | refine Aj Y ?_) | (show AW _ _ (.skip) _ _ _; refine Ag ?_; first | show AW _ _ _ _ _ _ | show ∃ x', _ < _ ∧ _) | (show AW _ _ (.block _ _) _ _ _; refine Ax ?_; intro Q1) | (show AW _ _ (.exit _) _ _ _; refine B5 ?_; first | show AW _ _ _ _ _ _ | show ∃ x', _ < _ ∧ _) | (show AW _ _ (.ret) _ _ _; refine Ar ?_; try dsimp only [Ao, Aa, Am, Ab]) | fail)
    refine Ad rfl (Bv 0 (ys := [g i]) hG rfl rfl rfl rfl rfl rfl rfl ⟨_, rfl⟩ rfl rfl rfl rfl (congrArg (fun t => [t]) ht) (by simp; omega) (fun k' => ?_))
    repeat' (first
    | ((show AL _ _ _ _ _ _ _ _; refine Ad Y ?_); (first
      | (show AOp _ _ ⟨_, .move _, _, _, _, _⟩ _ _ _; refine Aq hG Y Y ?_)
      | (show AOp _ _ ⟨_, .assign _, _, _, _, _⟩ _ _ _; refine Az hG Y Y ?_)
      | (show AOp _ _ ⟨_, .call ⟨.builtin .len, _, _⟩, _, _, _, _⟩ _ _ _; first | refine Bc hG Y Y Y Y ?_ | refine Bj hG Y Y Y Y Y ?_)
      | (show AOp _ _ ⟨_, .binOp .add _ _ _ _, _, _, _, _⟩ _ _ _; first | refine A3 hG Y Y Y Y Y (by omega) ?_)
      | (show AOp _ _ ⟨_, .binOp .mul _ _ _ _, _, _, _, _⟩ _ _ _; first | refine A3 hG Y Y Y Y Y (by omega) ?_)
      | (show AOp _ _ ⟨_, .binOp _ _ _ _ _, _, _, _, _⟩ _ _ _; first | refine Aw hG Y Y Y Y Y (by omega) ?_ | refine Av hG Y Y Y Y Y (by omega) ?_ | (refine Au hG Y Y Y Y Y (fun h => ?_) (fun h => ?_)))
      | (show AOp _ _ ⟨_, .convert _ _ _, _, _, _, _⟩ _ _ _; first | refine A7 hG Y Y Y Y Y (by omega) ?_ | refine r_cv_u16 hG Y Y Y Y Y (by omega) ?_ | refine Bh hG Y Y Y Y Y ?_)
      | (show AOp _ _ ⟨_, .slice _ _ _ _ _, _, _, _, _⟩ _ _ _; first | refine Bu hG Y Y Y Y Y Y Y (by omega) ?_ | refine B1 hG Y Y Y Y Y Y Y (by omega) ?_ | refine r_sl hG Y Y ?_)
      | (show AOp _ _ ⟨_, .unOp _ _ _, _, _, _, _⟩ _ _ _; refine r_not hG Y Y Y ?_)
      | (show AOp _ _ ⟨_, .buildSlice _ _ _, _, _, _, _⟩ _ _ _; first | refine r_mk (sz := 1) hG Y Y Y Y Y Y Y ?_)
      | (show AOp _ _ ⟨_, .call ⟨.builtin .append, _, _⟩, _, _, _, _⟩ _ _ _; first | refine Bt (sz := 1) (xs := []) hG Y Y Y Y Y Y Y ⟨_, Y⟩ Y Y Y Y Y Y Y (by first | omega | (simp; omega)) (fun k => ?_) | refine Bv 0 hG Y Y Y Y Y Y Y ⟨_, Y⟩ Y Y Y Y Y (by first | omega | (simp only [List.length_append, List.length_cons, List.length_nil]; omega)) (fun k => ?_) | fail)
      | refine r_q hG Y Y Y ?_))
    | (show AL _ _ _ _ _ _ _ _; first | refine A9 Y Y Y ?_ | (refine Al ?_; first | show AW _ _ _ _ _ _ | show ∃ x', _ < _ ∧ _)) | (show AW _ _ (.seq _ _) _ _ _; refine Af ?_; intro Q1) | (show AW _ _ (.region _ _ false) _ _ _; refine Ae ?_; intro O1) | (show AW _ _ (.cond _ _ _) _ _ _; first | refine Ai Y ?_ | refine Aj Y ?_) | (show AW _ _ (.skip) _ _ _; refine Ag ?_; first | show AW _ _ _ _ _ _ | show ∃ x', _ < _ ∧ _) | (show AW _ _ (.block _ _) _ _ _; refine Ax ?_; intro Q1) | (show AW _ _ (.exit _) _ _ _; refine B5 ?_; first | show AW _ _ _ _ _ _ | show ∃ x', _ < _ ∧ _) | (show AW _ _ (.ret) _ _ _; refine Ar ?_; try dsimp only [Ao, Aa, Am, Ab]) | fail)
    refine ⟨⟨i + 1, k', by omega⟩, by dsimp only; omega, ?_, .refl _⟩
    exact .cons rfl (.cons rfl (.cons rfl (.consW rfl (.int (by simp)) (.consW rfl (.eq (by rw [List.range_succ]; simp)) (.nil _)))))
  · obtain rfl : i = n := by omega
    have hm := cats_May (x := .sl 1 (.tok k) (((List.range i).map g).map hT)) (Ak _ _) (by simp; omega)
    cases hma : mayC ((List.range i).map g) <;> rw [hma] at hm
    · repeat' (first
    | ((show AL _ _ _ _ _ _ _ _; refine Ad Y ?_); (first
      | (show AOp _ _ ⟨_, .move _, _, _, _, _⟩ _ _ _; refine Aq hG Y Y ?_)
      | (show AOp _ _ ⟨_, .assign _, _, _, _, _⟩ _ _ _; refine Az hG Y Y ?_)
      | (show AOp _ _ ⟨_, .call ⟨.builtin .len, _, _⟩, _, _, _, _⟩ _ _ _; first | refine Bc hG Y Y Y Y ?_ | refine Bj hG Y Y Y Y Y ?_)
      | (show AOp _ _ ⟨_, .binOp .add _ _ _ _, _, _, _, _⟩ _ _ _; first | refine A3 hG Y Y Y Y Y (by omega) ?_)
      | (show AOp _ _ ⟨_, .binOp .mul _ _ _ _, _, _, _, _⟩ _ _ _; first | refine A3 hG Y Y Y Y Y (by omega) ?_)
      | (show AOp _ _ ⟨_, .binOp _ _ _ _ _, _, _, _, _⟩ _ _ _; first | refine Aw hG Y Y Y Y Y (by omega) ?_ | refine Av hG Y Y Y Y Y (by omega) ?_ | (refine Au hG Y Y Y Y Y (fun h => ?_) (fun h => ?_)))
      | (show AOp _ _ ⟨_, .convert _ _ _, _, _, _, _⟩ _ _ _; first | refine A7 hG Y Y Y Y Y (by omega) ?_ | refine r_cv_u16 hG Y Y Y Y Y (by omega) ?_ | refine Bh hG Y Y Y Y Y ?_)
      | (show AOp _ _ ⟨_, .slice _ _ _ _ _, _, _, _, _⟩ _ _ _; first | refine Bu hG Y Y Y Y Y Y Y (by omega) ?_ | refine B1 hG Y Y Y Y Y Y Y (by omega) ?_ | refine r_sl hG Y Y ?_)
      | (show AOp _ _ ⟨_, .unOp _ _ _, _, _, _, _⟩ _ _ _; refine r_not hG Y Y Y ?_)
      | (show AOp _ _ ⟨_, .buildSlice _ _ _, _, _, _, _⟩ _ _ _; first | refine r_mk (sz := 1) hG Y Y Y Y Y Y Y ?_)
      | (show AOp _ _ ⟨_, .call ⟨.builtin .append, _, _⟩, _, _, _, _⟩ _ _ _; first | refine Bt (sz := 1) (xs := []) hG Y Y Y Y Y Y Y ⟨_, Y⟩ Y Y Y Y Y Y Y (by first | omega | (simp; omega)) (fun k => ?_) | refine Bv 0 hG Y Y Y Y Y Y Y ⟨_, Y⟩ Y Y Y Y Y (by first | omega | (simp only [List.length_append, List.length_cons, List.length_nil]; omega)) (fun k => ?_) | fail)
      | (show AOp _ _ ⟨_, .call ⟨.value _, _, _⟩, _, _, _, _⟩ _ _ _; first | refine A4 Y Y Y Y Y (by apply hm <;> (first | assumption | omega | exact Ac _ _ | exact Ah _ | exact Ak _ _ | exact As _ | rfl | (simp; omega))) ?_ | fail)
      | refine r_q hG Y Y Y ?_))
    | (show AL _ _ _ _ _ _ _ _; first | refine A9 Y Y Y ?_ | (refine Al ?_; first | show AW _ _ _ _ _ _ | show ∃ x', _ < _ ∧ _)) | (show AW _ _ (.seq _ _) _ _ _; refine Af ?_; intro Q1) | (show AW _ _ (.region _ _ false) _ _ _; refine Ae ?_; intro O1) | (show AW _ _ (.cond _ _ _) _ _ _; first | refine Ai Y ?_ | refine Aj Y ?_) | (show AW _ _ (.skip) _ _ _; refine Ag ?_; first | show AW _ _ _ _ _ _ | show ∃ x', _ < _ ∧ _) | (show AW _ _ (.block _ _) _ _ _; refine Ax ?_; intro Q1) | (show AW _ _ (.exit _) _ _ _; refine B5 ?_; first | show AW _ _ _ _ _ _ | show ∃ x', _ < _ ∧ _) | (show AW _ _ (.ret) _ _ _; refine Ar ?_; try dsimp only [Ao, Aa, Am, Ab]) | fail)
      refine Bb (A1 rfl (A1 rfl (A1 rfl A0))) ?_ rfl
      rw [hma]
      exact Wk.tupL (wk3 (.nil 1) (.refl _) (.refl _))
    · repeat' (first
    | ((show AL _ _ _ _ _ _ _ _; refine Ad Y ?_); (first
      | (show AOp _ _ ⟨_, .move _, _, _, _, _⟩ _ _ _; refine Aq hG Y Y ?_)
      | (show AOp _ _ ⟨_, .assign _, _, _, _, _⟩ _ _ _; refine Az hG Y Y ?_)
      | (show AOp _ _ ⟨_, .call ⟨.builtin .len, _, _⟩, _, _, _, _⟩ _ _ _; first | refine Bc hG Y Y Y Y ?_ | refine Bj hG Y Y Y Y Y ?_)
      | (show AOp _ _ ⟨_, .binOp .add _ _ _ _, _, _, _, _⟩ _ _ _; first | refine A3 hG Y Y Y Y Y (by omega) ?_)
      | (show AOp _ _ ⟨_, .binOp .mul _ _ _ _, _, _, _, _⟩ _ _ _; first | refine A3 hG Y Y Y Y Y (by omega) ?_)
      | (show AOp _ _ ⟨_, .binOp _ _ _ _ _, _, _, _, _⟩ _ _ _; first | refine Aw hG Y Y Y Y Y (by omega) ?_ | refine Av hG Y Y Y Y Y (by omega) ?_ | (refine Au hG Y Y Y Y Y (fun h => ?_) (fun h => ?_)))
      | (show AOp _ _ ⟨_, .convert _ _ _, _, _, _, _⟩ _ _ _; first | refine A7 hG Y Y Y Y Y (by omega) ?_ | refine r_cv_u16 hG Y Y Y Y Y (by omega) ?_ | refine Bh hG Y Y Y Y Y ?_)
      | (show AOp _ _ ⟨_, .slice _ _ _ _ _, _, _, _, _⟩ _ _ _; first | refine Bu hG Y Y Y Y Y Y Y (by omega) ?_ | refine B1 hG Y Y Y Y Y Y Y (by omega) ?_ | refine r_sl hG Y Y ?_)
      | (show AOp _ _ ⟨_, .unOp _ _ _, _, _, _, _⟩ _ _ _; refine r_not hG Y Y Y ?_)
      | (show AOp _ _ ⟨_, .buildSlice _ _ _, _, _, _, _⟩ _ _ _; first | refine r_mk (sz := 1) hG Y Y Y Y Y Y Y ?_)
      | (show AOp _ _ ⟨_, .call ⟨.builtin .append, _, _⟩, _, _, _, _⟩ _ _ _; first | refine Bt (sz := 1) (xs := []) hG Y Y Y Y Y Y Y ⟨_, Y⟩ Y Y Y Y Y Y Y (by first | omega | (simp; omega)) (fun k => ?_) | refine Bv 0 hG Y Y Y Y Y Y Y ⟨_, Y⟩ Y Y Y Y Y (by first | omega | (simp only [List.length_append, List.length_cons, List.length_nil]; omega)) (fun k => ?_) | fail)
      | (show AOp _ _ ⟨_, .call ⟨.value _, _, _⟩, _, _, _, _⟩ _ _ _; first | refine A4 Y Y Y Y Y (by apply hm <;> (first | assumption | omega | exact Ac _ _ | exact Ah _ | exact Ak _ _ | exact As _ | rfl | (simp; omega))) ?_ | fail)
      | refine r_q hG Y Y Y ?_))
    | (show AL _ _ _ _ _ _ _ _; first | refine A9 Y Y Y ?_ | (refine Al ?_; first | show AW _ _ _ _ _ _ | show ∃ x', _ < _ ∧ _)) | (show AW _ _ (.seq _ _) _ _ _; refine Af ?_; intro Q1) | (show AW _ _ (.region _ _ false) _ _ _; refine Ae ?_; intro O1) | (show AW _ _ (.cond _ _ _) _ _ _; first | refine Ai Y ?_ | refine Aj Y ?_) | (show AW _ _ (.skip) _ _ _; refine Ag ?_; first | show AW _ _ _ _ _ _ | show ∃ x', _ < _ ∧ _) | (show AW _ _ (.block _ _) _ _ _; refine Ax ?_; intro Q1) | (show AW _ _ (.exit _) _ _ _; refine B5 ?_; first | show AW _ _ _ _ _ _ | show ∃ x', _ < _ ∧ _) | (show AW _ _ (.ret) _ _ _; refine Ar ?_; try dsimp only [Ao, Aa, Am, Ab]) | fail)
      refine Bb (A1 rfl (A1 rfl (A1 rfl A0))) ?_ rfl
      rw [hma]
      exact Wk.tupL (wk3 (Wk.own _ _ _) (.int (by simp)) (.refl _))
end Go.Proofs.Ytholeicgmkjadaa
namespace Go.Proofs.Ytholeicgmkjadaa
open Go.Ts
set_option linter.unusedSimpArgs false
set_option linter.unusedVariables false
def mayL (l : List (List UInt8)) : Bool := decide (l.length ≤ 4) && l.all fun b => decide (b.length ≤ 16)
def putR (b : List UInt8) (l : List (List UInt8)) : List UInt8 := l.foldl putBs (b ++ putI l.length 1)
def takeLs (b : List UInt8) : Nat → List (List UInt8) → Nat → List (List UInt8) × Nat × Int
  | 0, acc, at' => (acc, at', 0)
  | n + 1, acc, at' => if (takeBE (b.drop at')).2.2 = 0 then takeLs b n (acc ++ [(takeBE (b.drop at')).1]) (at' + (takeBE (b.drop at')).2.1) else ([], 0, 3)
def takeR (b : List UInt8) : List (List UInt8) × Nat × Int :=
  if b.length < 1 then ([], 0, 3)
  else if (takeLs b (beV (b.take 1)) [] 1).2.2 = 0 then (if mayL (takeLs b (beV (b.take 1)) [] 1).1 then takeLs b (beV (b.take 1)) [] 1 else ([], 0, 2)) else ([], 0, 3)
theorem takeBE_e (b : List UInt8) : (takeBE b).2.2 = 0 ∧ 2 ≤ b.length ∧ (takeBE b).2.1 ≤ b.length ∧ (takeBE b).1.length ≤ 65535 ∨ takeBE b = ([], 0, 3) := by
  unfold takeBE
  split
  · exact .inr rfl
  split
  · exact .inr rfl
  · have := beV2 b (by omega)
    refine .inl ⟨rfl, by omega, by simp; omega, ?_⟩
    simp; omega
theorem be2 (n : Nat) (h : n < 65536) : putI n 2 = [UInt8.ofNat (n / 256), UInt8.ofNat n] := by
  unfold putI
  rw [if_pos (by omega)]
  simp [be]
theorem beV_2 (n : Nat) (h : n < 65536) : beV [UInt8.ofNat (n / 256), UInt8.ofNat n] = n := by
  simp [beV]; omega
theorem takeBE_put (s rest : List UInt8) (h : s.length < 65536) : takeBE (putI s.length 2 ++ s ++ rest) = (s, 2 + s.length, 0) := by
  rw [be2 _ h]
  unfold takeBE
  have e : beV (([UInt8.ofNat (s.length / 256), UInt8.ofNat s.length] ++ s ++ rest).take 2) = s.length := beV_2 _ h
  rw [e, if_neg (by simp), if_neg (by simp)]
  congr 1
  rw [show 2 + s.length = s.length + 2 by omega]
  simp
theorem takeBE_short (s rest : List UInt8) (k : Nat) (h : s.length < 65536) (hk : k < 2 + s.length) : takeBE ((putI s.length 2 ++ s ++ rest).take k) = ([], 0, 3) := by
  rw [be2 _ h]
  unfold takeBE
  by_cases h2 : k < 2
  · rw [if_pos (by simp; omega)]
  · have e : beV ((([UInt8.ofNat (s.length / 256), UInt8.ofNat s.length] ++ s ++ rest).take k).take 2) = s.length := by
      rw [List.take_take, Nat.min_eq_left (by omega)]; exact beV_2 _ h
    have hlen : (([UInt8.ofNat (s.length / 256), UInt8.ofNat s.length] ++ s ++ rest).take k).length = min k (2 + s.length + rest.length) := by simp; omega
    rw [e, if_neg (by omega), if_pos (by omega)]
end Go.Proofs.Ytholeicgmkjadaa
namespace Go.Proofs.Ytholeicgmkjadaa
open Go.Ts
set_option linter.unusedSimpArgs false
set_option linter.unusedVariables false
theorem foldl_be (v : Nat) : ∀ (n a : Nat), (be v n).foldl (fun a x => a * 256 + x.toNat) a = a * 2 ^ (8 * n) + v % 2 ^ (8 * n)
  | 0, a => by simp [be, Nat.mod_one]
  | n + 1, a => by
    rw [be, List.foldl_cons, foldl_be v n]
    have e : 2 ^ (8 * (n + 1)) = 2 ^ (8 * n) * 256 := by rw [show 8 * (n + 1) = 8 * n + 8 by omega, Nat.pow_add]
    have h : (UInt8.ofNat (v / 2 ^ (8 * n))).toNat = v / 2 ^ (8 * n) % 256 := by simp
    rw [h, e, Nat.mod_mul, Nat.add_mul, Nat.mul_assoc, Nat.mul_comm 256 (2 ^ (8 * n)), Nat.mul_comm (v / 2 ^ (8 * n) % 256)]
    omega
theorem beV_be (v n : Nat) (h : v < 2 ^ (8 * n)) : beV (be v n) = v := by
  unfold beV; rw [foldl_be, Nat.zero_mul, Nat.zero_add, Nat.mod_eq_of_lt h]
theorem be_add (w : Nat) : ∀ (m n v : Nat), m ≤ n → be (v + w * 2 ^ (8 * n)) m = be v m
  | 0, n, v, h => rfl
  | m + 1, n, v, h => by
    rw [be, be, be_add w m n v (by omega)]
    congr 1
    have e : 2 ^ (8 * n) = 2 ^ (8 * m) * (256 * 2 ^ (8 * (n - m - 1))) := by
      rw [show (256 : Nat) = 2 ^ 8 from rfl, ← Nat.pow_add, ← Nat.pow_add]; congr 1; omega
    have h2 : (v + w * 2 ^ (8 * n)) / 2 ^ (8 * m) = v / 2 ^ (8 * m) + 256 * (w * 2 ^ (8 * (n - m - 1))) := by
      rw [e, show w * (2 ^ (8 * m) * (256 * 2 ^ (8 * (n - m - 1)))) = 2 ^ (8 * m) * (256 * (w * 2 ^ (8 * (n - m - 1)))) by ac_rfl, Nat.add_mul_div_left _ _ (Nat.two_pow_pos _)]
    rw [h2]
    apply UInt8.toNat_inj.1
    simp [UInt8.toNat_ofNat']
theorem beV_cons (x : UInt8) (l : List UInt8) : beV (x :: l) = x.toNat * 2 ^ (8 * l.length) + beV l := by
  have : ∀ (l : List UInt8) (a : Nat), l.foldl (fun a x => a * 256 + x.toNat) a = a * 2 ^ (8 * l.length) + beV l := by
    intro l
    induction l with
    | nil => intro a; simp [beV]
    | cons y l ih =>
      intro a
      have h1 := ih (a * 256 + y.toNat)
      have h2 := ih (0 * 256 + y.toNat)
      rw [List.foldl_cons, h1]
      have e3 : beV (y :: l) = List.foldl (fun a x => a * 256 + x.toNat) (0 * 256 + y.toNat) l := rfl
      rw [e3, h2, List.length_cons, show 8 * (l.length + 1) = 8 + 8 * l.length by omega, Nat.pow_add]
      rw [Nat.add_mul, Nat.zero_mul, Nat.zero_add, Nat.mul_assoc, show (2 : Nat) ^ 8 = 256 from rfl]
      omega
  have h := this l (0 * 256 + x.toNat)
  have e3 : beV (x :: l) = List.foldl (fun a x => a * 256 + x.toNat) (0 * 256 + x.toNat) l := rfl
  rw [e3, h]; simp
theorem be_beV : ∀ (l : List UInt8), be (beV l) l.length = l
  | [] => rfl
  | x :: l => by
    rw [List.length_cons, be, beV_cons, Nat.add_comm, be_add _ _ _ _ (Nat.le_refl _), be_beV l]
    congr 1
    have hlt := beV_lt l.length l rfl
    rw [Nat.add_mul_div_right _ _ (Nat.two_pow_pos _), Nat.div_eq_of_lt hlt, Nat.zero_add]
    simp
theorem putI_be (v n : Nat) (h : n ≤ 8) : putI (v : Int) (n : Int) = be v n := by
  unfold putI; rw [if_pos (by omega)]; simp
theorem takeBE_back {b s : List UInt8} {n : Nat} (h : takeBE b = (s, n, 0)) : b = putI s.length 2 ++ s ++ b.drop n ∧ n = 2 + s.length ∧ s.length < 65536 ∧ n ≤ b.length := by
  unfold takeBE at h
  by_cases h1 : b.length < 2
  · rw [if_pos h1] at h; simp at h
  rw [if_neg h1] at h
  by_cases h2 : b.length - 2 < beV (b.take 2)
  · rw [if_pos h2] at h; simp at h
  rw [if_neg h2] at h
  simp only [Prod.mk.injEq] at h
  obtain ⟨rfl, rfl, _⟩ := h
  have hv := beV2 b (by omega)
  have hl : ((b.take (2 + beV (b.take 2))).drop 2).length = beV (b.take 2) := by simp; omega
  refine ⟨?_, by rw [hl], by omega, by omega⟩
  rw [hl, show (2 : Int) = ((2 : Nat) : Int) from rfl, putI_be _ _ (by omega)]
  have e : be (beV (b.take 2)) 2 = b.take 2 := by
    have := be_beV (b.take 2)
    rwa [show (b.take 2).length = 2 by simp; omega] at this
  rw [e]
  generalize beV (b.take 2) = k at *
  have e2 : b.take 2 ++ (b.take (2 + k)).drop 2 = b.take (2 + k) := by
    rw [List.drop_take, Nat.add_sub_cancel_left, List.take_add]
  rw [e2, List.take_append_drop]
end Go.Proofs.Ytholeicgmkjadaa
namespace Go.Proofs.Ytholeicgmkjadaa
open Go.Ts
set_option linter.unusedSimpArgs false
set_option linter.unusedVariables false
attribute [local irreducible] Go.Ts.AW Go.Ts.AOps Go.Ts.AL Go.Ts.AOp Go.Ts.ACalls Go.Ts.DL Go.Ts.DQ Go.Ts.EL
def iT (x : Nat) : T := .int .i64 x
instance : Enc iT 1 := ⟨fun x c h => by simp [iT, T.cells] at h; subst h; rfl, fun x => rfl⟩
def wT (x : Nat) : T := .int .u64 x
instance : Enc wT 1 := ⟨fun x c h => by simp [wT, T.cells] at h; subst h; rfl, fun x => rfl⟩
section
variable {P : Program} {G : Nat → Option TI} {σ : St} {N : Nat} {a : Env}
end
end Go.Proofs.Ytholeicgmkjadaa
namespace Go.Proofs.Ytholeicgmkjadaa
open Go.Ts
attribute [local irreducible] Go.Ts.AW Go.Ts.AOps Go.Ts.AL Go.Ts.AOp Go.Ts.ACalls Go.Ts.DL Go.Ts.DQ Go.Ts.EL
theorem neg_lt_tmod (p : Int) {n : Int} (h : 0 < n) : -n < p.tmod n := by
  have h1 := Int.tmod_lt_of_pos (-p) h
  rw [Int.neg_tmod] at h1; omega
def placeN (p n : Int) : Int := if n < 1 then 0 else if p.tmod n < 0 then p.tmod n + n else p.tmod n
theorem placeN_lt {p n : Int} (h : 1 ≤ n) : 0 ≤ placeN p n ∧ placeN p n < n := by
  unfold placeN
  rw [if_neg (by omega)]
  have h1 := Int.tmod_lt_of_pos p (by omega : 0 < n)
  have h2 : -n < p.tmod n := neg_lt_tmod p (by omega)
  split <;> omega
theorem law_Place {p n : Int} (h : 0 ≤ n ∧ n ≤ 9223372036854775807) : Ts.Pure Try.prog 12 [.int .i64 p, .int .i64 n] (.int .i64 (placeN p n)) := by
  intro off
  refine A5 (N := 16) (rs := [.tmp 4]) hG Try.func12 rfl rfl rfl rfl rfl ?_
  by_cases h1 : n < 1
  · repeat' (first
    | ((show AL _ _ _ _ _ _ _ _; refine Ad Y ?_); (first
      | (show AOp _ _ ⟨_, .move _, _, _, _, _⟩ _ _ _; refine Aq hG Y Y ?_)
      | (show AOp _ _ ⟨_, .assign _, _, _, _, _⟩ _ _ _; refine Az hG Y Y ?_)
      | (show AOp _ _ ⟨_, .binOp .add _ _ _ _, _, _, _, _⟩ _ _ _; first | refine A3 hG Y Y Y Y Y (by omega) ?_)
      | (show AOp _ _ ⟨_, .binOp .rem _ _ _ _, _, _, _, _⟩ _ _ _; first | refine r_rem hG Y Y Y Y (by omega) ?_ | refine r_trem hG Y Y Y Y (by omega) ?_)
      | (show AOp _ _ ⟨_, .binOp _ _ _ _ _, _, _, _, _⟩ _ _ _; first | refine Aw hG Y Y Y Y Y (by omega) ?_ | refine Av hG Y Y Y Y Y (by omega) ?_ | (refine Au hG Y Y Y Y Y (fun h => ?_) (fun h => ?_)))
      | refine r_q hG Y Y Y ?_))
    | (show AL _ _ _ _ _ _ _ _; first | refine A9 Y Y Y ?_ | (refine Al ?_; first | show AW _ _ _ _ _ _ | show ∃ x', _ < _ ∧ _)) | (show AW _ _ (.seq _ _) _ _ _; refine Af ?_; intro Q1) | (show AW _ _ (.region _ _ false) _ _ _; refine Ae ?_; intro O1) | (show AW _ _ (.cond _ _ _) _ _ _; first | refine Ai Y ?_ | refine Aj Y ?_) | (show AW _ _ (.skip) _ _ _; refine Ag ?_; first | show AW _ _ _ _ _ _ | show ∃ x', _ < _ ∧ _) | (show AW _ _ (.ret) _ _ _; refine Ar ?_; try dsimp only [Ao, Aa, Am, Ab]) | fail)
    exact Bb (A1 rfl A0) (.int (by rw [placeN, if_pos h1])) rfl
  · have h3 := Int.tmod_lt_of_pos p (by omega : 0 < n)
    have h4 : -n < p.tmod n := neg_lt_tmod p (by omega)
    by_cases h2 : p.tmod n < 0
    · repeat' (first
    | ((show AL _ _ _ _ _ _ _ _; refine Ad Y ?_); (first
      | (show AOp _ _ ⟨_, .move _, _, _, _, _⟩ _ _ _; refine Aq hG Y Y ?_)
      | (show AOp _ _ ⟨_, .assign _, _, _, _, _⟩ _ _ _; refine Az hG Y Y ?_)
      | (show AOp _ _ ⟨_, .binOp .add _ _ _ _, _, _, _, _⟩ _ _ _; first | refine A3 hG Y Y Y Y Y (by omega) ?_)
      | (show AOp _ _ ⟨_, .binOp .rem _ _ _ _, _, _, _, _⟩ _ _ _; first | refine r_rem hG Y Y Y Y (by omega) ?_ | refine r_trem hG Y Y Y Y (by omega) ?_)
      | (show AOp _ _ ⟨_, .binOp _ _ _ _ _, _, _, _, _⟩ _ _ _; first | refine Aw hG Y Y Y Y Y (by omega) ?_ | refine Av hG Y Y Y Y Y (by omega) ?_ | (refine Au hG Y Y Y Y Y (fun h => ?_) (fun h => ?_)))
      | refine r_q hG Y Y Y ?_))
    | (show AL _ _ _ _ _ _ _ _; first | refine A9 Y Y Y ?_ | (refine Al ?_; first | show AW _ _ _ _ _ _ | show ∃ x', _ < _ ∧ _)) | (show AW _ _ (.seq _ _) _ _ _; refine Af ?_; intro Q1) | (show AW _ _ (.region _ _ false) _ _ _; refine Ae ?_; intro O1) | (show AW _ _ (.cond _ _ _) _ _ _; first | refine Ai Y ?_ | refine Aj Y ?_) | (show AW _ _ (.skip) _ _ _; refine Ag ?_; first | show AW _ _ _ _ _ _ | show ∃ x', _ < _ ∧ _) | (show AW _ _ (.ret) _ _ _; refine Ar ?_; try dsimp only [Ao, Aa, Am, Ab]) | fail)
      exact Bb (A1 rfl A0) (.int (by rw [placeN, if_neg h1, if_pos h2])) rfl
    · repeat' (first
    | ((show AL _ _ _ _ _ _ _ _; refine Ad Y ?_); (first
      | (show AOp _ _ ⟨_, .move _, _, _, _, _⟩ _ _ _; refine Aq hG Y Y ?_)
      | (show AOp _ _ ⟨_, .assign _, _, _, _, _⟩ _ _ _; refine Az hG Y Y ?_)
      | (show AOp _ _ ⟨_, .binOp .add _ _ _ _, _, _, _, _⟩ _ _ _; first | refine A3 hG Y Y Y Y Y (by omega) ?_)
      | (show AOp _ _ ⟨_, .binOp .rem _ _ _ _, _, _, _, _⟩ _ _ _; first | refine r_rem hG Y Y Y Y (by omega) ?_ | refine r_trem hG Y Y Y Y (by omega) ?_)
      | (show AOp _ _ ⟨_, .binOp _ _ _ _ _, _, _, _, _⟩ _ _ _; first | refine Aw hG Y Y Y Y Y (by omega) ?_ | refine Av hG Y Y Y Y Y (by omega) ?_ | (refine Au hG Y Y Y Y Y (fun h => ?_) (fun h => ?_)))
      | refine r_q hG Y Y Y ?_))
    | (show AL _ _ _ _ _ _ _ _; first | refine A9 Y Y Y ?_ | (refine Al ?_; first | show AW _ _ _ _ _ _ | show ∃ x', _ < _ ∧ _)) | (show AW _ _ (.seq _ _) _ _ _; refine Af ?_; intro Q1) | (show AW _ _ (.region _ _ false) _ _ _; refine Ae ?_; intro O1) | (show AW _ _ (.cond _ _ _) _ _ _; first | refine Ai Y ?_ | refine Aj Y ?_) | (show AW _ _ (.skip) _ _ _; refine Ag ?_; first | show AW _ _ _ _ _ _ | show ∃ x', _ < _ ∧ _) | (show AW _ _ (.ret) _ _ _; refine Ar ?_; try dsimp only [Ao, Aa, Am, Ab]) | fail)
      exact Bb (A1 rfl A0) (.int (by rw [placeN, if_neg h1, if_neg h2])) rfl
end Go.Proofs.Ytholeicgmkjadaa
namespace Go.Proofs.Ytholeicgmkjadaa
open Go.Ts Go.Sets
attribute [local irreducible] Go.Ts.AW Go.Ts.AOps Go.Ts.AL Go.Ts.AOp Go.Ts.ACalls Go.Ts.DL Go.Ts.DQ Go.Ts.EL
theorem putI1 (n : Nat) : putI n 1 = [UInt8.ofNat n] := by rw [putI, if_pos (by omega)]; simp [be]
structure SSX (a b : List UInt16) where
  i : Nat
  hi : i ≤ a.length
  hp : ∀ j, j < i → a.getD j default = b.getD j default
theorem ref_SameSet {x y : T} {a b : List UInt16} (hx : catsT x = some a) (hy : catsT y = some b) (hl : a.length ≤ 4294967296) (hm : b.length ≤ 4294967296) : Pure Try.prog 25 [x, y] (.bool (decide (a = b))) := by
  refine Pure.weak (us := [cT a, cT b]) ?_ (wk2 (catsT_wk hx) (catsT_wk hy))
  intro off
  refine A5 (N := 26) (rs := [.tmp 4]) hG Try.func25 rfl rfl rfl rfl rfl ?_
  by_cases hlen : a.length = b.length
  · repeat' (first
    | ((first | (show AL _ _ _ _ _ _ _ _; refine Ad Y ?_) | (show DL _ _ _ _ _ _ _; refine' Be Y Y (fun K kk => ?_) ?_; try (show Go.Ts.T; rotate_left))); (first
      | (show AOp _ _ ⟨_, .move _, _, _, _, _⟩ _ _ _; refine Aq hG Y Y ?_)
      | (show AOp _ _ ⟨_, .assign _, _, _, _, _⟩ _ _ _; refine Az hG Y Y ?_)
      | (show AOp _ _ ⟨_, .call ⟨.builtin .len, _, _⟩, _, _, _, _⟩ _ _ _; first | refine Bc hG Y Y Y Y ?_ | refine Bj hG Y Y Y Y Y ?_)
      | (show AOp _ _ ⟨_, .binOp .add _ _ _ _, _, _, _, _⟩ _ _ _; first | refine A3 hG Y Y Y Y Y (by omega) ?_)
      | (show AOp _ _ ⟨_, .binOp _ _ _ _ _, _, _, _, _⟩ _ _ _; first | refine Aw hG Y Y Y Y Y (by omega) ?_ | refine Av hG Y Y Y Y Y (by omega) ?_ | ((fail_if_success have := kk); refine Au hG Y Y Y Y Y (fun h => ?_) (fun h => ?_)))
      | (show AOp _ _ ⟨_, .load _ _, _, _, _, _⟩ _ _ _; first | refine Br hG Y Y Y ?_ | refine Ap 0 hG Y Y Y Y ?_)
      | (show AOp _ _ ⟨_, .indexAddr _ _ _, _, _, _, _⟩ _ _ _; first | refine Bp hG Y Y Y Y Y Y Y (by omega) ?_ | refine Bq hG Y Y Y Y Y Y Y (by omega) ?_ | refine r_idx hG Y Y ?_)
      | refine r_q hG Y Y Y ?_); try exact kk)
    | (show AL _ _ _ _ _ _ _ _; first | refine A9 Y Y Y ?_ | (refine Al ?_; first | show AW _ _ _ _ _ _ | show ∃ x', _ < _ ∧ _)) | (show AW _ _ (.seq _ _) _ _ _; refine Af ?_; intro Q1) | (show AW _ _ (.region _ _ false) _ _ _; refine Ae ?_; intro O1) | (show AW _ _ (.cond _ _ _) _ _ _; first | refine Ai Y ?_ | refine Aj Y ?_) | (show AW _ _ (.skip) _ _ _; refine Ag ?_; first | show AW _ _ _ _ _ _ | show ∃ x', _ < _ ∧ _) | (show AW _ _ (.block _ _) _ _ _; refine Ax ?_; intro Q1) | (show AW _ _ (.exit _) _ _ _; refine B5 ?_; first | show AW _ _ _ _ _ _ | show ∃ x', _ < _ ∧ _) | (show AW _ _ (.ret) _ _ _; refine Ar ?_; try dsimp only [Ao, Aa, Am, Ab])
    | (show DL _ _ _ _ _ _ _; refine dl_d Y Y (fun K kt kf => Au hG Y Y Y Y Y kt kf) (fun h => ?_) (fun h => ?_))
    | (show DL _ _ _ _ _ _ _; refine dl_s Y Y Y ?_) | (show DL _ _ _ _ _ _ _; refine Bk ?_; first | show AW _ _ _ _ _ _ | show ∃ x', _ < _ ∧ _) | (show AW _ _ (.region _ _ true) _ _ _; refine Ba mix (by kernel_rfl) ?_; intro O1) | fail)
    refine aw_loop (X := SSX a b) (fun x => [(0, cT a), (1, cT b), (5, .int .i64 x.i)]) (fun x => ⟨[], [], off, none⟩) (fun x => a.length - x.i) ⟨0, Nat.zero_le _, fun j hj => by omega⟩ ?_ (.refl _) ?_
    · exact .cons rfl (.cons rfl (.consW rfl (.int rfl) (.nil _)))
    rintro ⟨i, hi, hp⟩
    dsimp only
    by_cases hib : i < a.length
    · by_cases heq : (((a.getD i default).toNat : Int) = ((b.getD i default).toNat : Int))
      · repeat' (first
    | ((first | (show AL _ _ _ _ _ _ _ _; refine Ad Y ?_) | (show DL _ _ _ _ _ _ _; refine' Be Y Y (fun K kk => ?_) ?_; try (show Go.Ts.T; rotate_left))); (first
      | (show AOp _ _ ⟨_, .move _, _, _, _, _⟩ _ _ _; refine Aq hG Y Y ?_)
      | (show AOp _ _ ⟨_, .assign _, _, _, _, _⟩ _ _ _; refine Az hG Y Y ?_)
      | (show AOp _ _ ⟨_, .call ⟨.builtin .len, _, _⟩, _, _, _, _⟩ _ _ _; first | refine Bc hG Y Y Y Y ?_ | refine Bj hG Y Y Y Y Y ?_)
      | (show AOp _ _ ⟨_, .binOp .add _ _ _ _, _, _, _, _⟩ _ _ _; first | refine A3 hG Y Y Y Y Y (by omega) ?_)
      | (show AOp _ _ ⟨_, .binOp _ _ _ _ _, _, _, _, _⟩ _ _ _; first | refine Aw hG Y Y Y Y Y (by omega) ?_ | refine Av hG Y Y Y Y Y (by omega) ?_ | ((fail_if_success have := kk); refine Au hG Y Y Y Y Y (fun h => ?_) (fun h => ?_)))
      | (show AOp _ _ ⟨_, .load _ _, _, _, _, _⟩ _ _ _; first | refine Br hG Y Y Y ?_ | refine Ap 0 hG Y Y Y Y ?_)
      | (show AOp _ _ ⟨_, .indexAddr _ _ _, _, _, _, _⟩ _ _ _; first | refine Bp hG Y Y Y Y Y Y Y (by omega) ?_ | refine Bq hG Y Y Y Y Y Y Y (by omega) ?_ | refine r_idx hG Y Y ?_)
      | refine r_q hG Y Y Y ?_); try exact kk)
    | (show AL _ _ _ _ _ _ _ _; first | refine A9 Y Y Y ?_ | (refine Al ?_; first | show AW _ _ _ _ _ _ | show ∃ x', _ < _ ∧ _)) | (show AW _ _ (.seq _ _) _ _ _; refine Af ?_; intro Q1) | (show AW _ _ (.region _ _ false) _ _ _; refine Ae ?_; intro O1) | (show AW _ _ (.cond _ _ _) _ _ _; first | refine Ai Y ?_ | refine Aj Y ?_) | (show AW _ _ (.skip) _ _ _; refine Ag ?_; first | show AW _ _ _ _ _ _ | show ∃ x', _ < _ ∧ _) | (show AW _ _ (.block _ _) _ _ _; refine Ax ?_; intro Q1) | (show AW _ _ (.exit _) _ _ _; refine B5 ?_; first | show AW _ _ _ _ _ _ | show ∃ x', _ < _ ∧ _) | (show AW _ _ (.ret) _ _ _; refine Ar ?_; try dsimp only [Ao, Aa, Am, Ab])
    | (show DL _ _ _ _ _ _ _; refine dl_d Y Y (fun K kt kf => Au hG Y Y Y Y Y kt kf) (fun h => ?_) (fun h => ?_))
    | (show DL _ _ _ _ _ _ _; refine dl_s Y Y Y ?_) | (show DL _ _ _ _ _ _ _; refine Bk ?_; first | show AW _ _ _ _ _ _ | show ∃ x', _ < _ ∧ _) | (show AW _ _ (.region _ _ true) _ _ _; refine Ba mix (by kernel_rfl) ?_; intro O1) | fail)
        refine ⟨⟨i + 1, by omega, fun j hj => ?_⟩, by dsimp only; omega, ?_, .refl _⟩
        · by_cases hj2 : j < i
          · exact hp j hj2
          · obtain rfl : j = i := by omega
            rw [← UInt16.toNat_inj]; omega
        · exact .cons rfl (.cons rfl (.consW rfl (.int (by simp)) (.nil _)))
      · repeat' (first
    | ((first | (show AL _ _ _ _ _ _ _ _; refine Ad Y ?_) | (show DL _ _ _ _ _ _ _; refine' Be Y Y (fun K kk => ?_) ?_; try (show Go.Ts.T; rotate_left))); (first
      | (show AOp _ _ ⟨_, .move _, _, _, _, _⟩ _ _ _; refine Aq hG Y Y ?_)
      | (show AOp _ _ ⟨_, .assign _, _, _, _, _⟩ _ _ _; refine Az hG Y Y ?_)
      | (show AOp _ _ ⟨_, .call ⟨.builtin .len, _, _⟩, _, _, _, _⟩ _ _ _; first | refine Bc hG Y Y Y Y ?_ | refine Bj hG Y Y Y Y Y ?_)
      | (show AOp _ _ ⟨_, .binOp .add _ _ _ _, _, _, _, _⟩ _ _ _; first | refine A3 hG Y Y Y Y Y (by omega) ?_)
      | (show AOp _ _ ⟨_, .binOp _ _ _ _ _, _, _, _, _⟩ _ _ _; first | refine Aw hG Y Y Y Y Y (by omega) ?_ | refine Av hG Y Y Y Y Y (by omega) ?_ | ((fail_if_success have := kk); refine Au hG Y Y Y Y Y (fun h => ?_) (fun h => ?_)))
      | (show AOp _ _ ⟨_, .load _ _, _, _, _, _⟩ _ _ _; first | refine Br hG Y Y Y ?_ | refine Ap 0 hG Y Y Y Y ?_)
      | (show AOp _ _ ⟨_, .indexAddr _ _ _, _, _, _, _⟩ _ _ _; first | refine Bp hG Y Y Y Y Y Y Y (by omega) ?_ | refine Bq hG Y Y Y Y Y Y Y (by omega) ?_ | refine r_idx hG Y Y ?_)
      | refine r_q hG Y Y Y ?_); try exact kk)
    | (show AL _ _ _ _ _ _ _ _; first | refine A9 Y Y Y ?_ | (refine Al ?_; first | show AW _ _ _ _ _ _ | show ∃ x', _ < _ ∧ _)) | (show AW _ _ (.seq _ _) _ _ _; refine Af ?_; intro Q1) | (show AW _ _ (.region _ _ false) _ _ _; refine Ae ?_; intro O1) | (show AW _ _ (.cond _ _ _) _ _ _; first | refine Ai Y ?_ | refine Aj Y ?_) | (show AW _ _ (.skip) _ _ _; refine Ag ?_; first | show AW _ _ _ _ _ _ | show ∃ x', _ < _ ∧ _) | (show AW _ _ (.block _ _) _ _ _; refine Ax ?_; intro Q1) | (show AW _ _ (.exit _) _ _ _; refine B5 ?_; first | show AW _ _ _ _ _ _ | show ∃ x', _ < _ ∧ _) | (show AW _ _ (.ret) _ _ _; refine Ar ?_; try dsimp only [Ao, Aa, Am, Ab])
    | (show DL _ _ _ _ _ _ _; refine dl_d Y Y (fun K kt kf => Au hG Y Y Y Y Y kt kf) (fun h => ?_) (fun h => ?_))
    | (show DL _ _ _ _ _ _ _; refine dl_s Y Y Y ?_) | (show DL _ _ _ _ _ _ _; refine Bk ?_; first | show AW _ _ _ _ _ _ | show ∃ x', _ < _ ∧ _) | (show AW _ _ (.region _ _ true) _ _ _; refine Ba mix (by kernel_rfl) ?_; intro O1) | fail)
        refine Bb (A1 rfl A0) (.eq ?_) rfl
        rw [decide_eq_false (fun h => heq (by rw [h]))]; rfl
    · repeat' (first
    | ((first | (show AL _ _ _ _ _ _ _ _; refine Ad Y ?_) | (show DL _ _ _ _ _ _ _; refine' Be Y Y (fun K kk => ?_) ?_; try (show Go.Ts.T; rotate_left))); (first
      | (show AOp _ _ ⟨_, .move _, _, _, _, _⟩ _ _ _; refine Aq hG Y Y ?_)
      | (show AOp _ _ ⟨_, .assign _, _, _, _, _⟩ _ _ _; refine Az hG Y Y ?_)
      | (show AOp _ _ ⟨_, .call ⟨.builtin .len, _, _⟩, _, _, _, _⟩ _ _ _; first | refine Bc hG Y Y Y Y ?_ | refine Bj hG Y Y Y Y Y ?_)
      | (show AOp _ _ ⟨_, .binOp .add _ _ _ _, _, _, _, _⟩ _ _ _; first | refine A3 hG Y Y Y Y Y (by omega) ?_)
      | (show AOp _ _ ⟨_, .binOp _ _ _ _ _, _, _, _, _⟩ _ _ _; first | refine Aw hG Y Y Y Y Y (by omega) ?_ | refine Av hG Y Y Y Y Y (by omega) ?_ | ((fail_if_success have := kk); refine Au hG Y Y Y Y Y (fun h => ?_) (fun h => ?_)))
      | (show AOp _ _ ⟨_, .load _ _, _, _, _, _⟩ _ _ _; first | refine Br hG Y Y Y ?_ | refine Ap 0 hG Y Y Y Y ?_)
      | (show AOp _ _ ⟨_, .indexAddr _ _ _, _, _, _, _⟩ _ _ _; first | refine Bp hG Y Y Y Y Y Y Y (by omega) ?_ | refine Bq hG Y Y Y Y Y Y Y (by omega) ?_ | refine r_idx hG Y Y ?_)
      | refine r_q hG Y Y Y ?_); try exact kk)
    | (show AL _ _ _ _ _ _ _ _; first | refine A9 Y Y Y ?_ | (refine Al ?_; first | show AW _ _ _ _ _ _ | show ∃ x', _ < _ ∧ _)) | (show AW _ _ (.seq _ _) _ _ _; refine Af ?_; intro Q1) | (show AW _ _ (.region _ _ false) _ _ _; refine Ae ?_; intro O1) | (show AW _ _ (.cond _ _ _) _ _ _; first | refine Ai Y ?_ | refine Aj Y ?_) | (show AW _ _ (.skip) _ _ _; refine Ag ?_; first | show AW _ _ _ _ _ _ | show ∃ x', _ < _ ∧ _) | (show AW _ _ (.block _ _) _ _ _; refine Ax ?_; intro Q1) | (show AW _ _ (.exit _) _ _ _; refine B5 ?_; first | show AW _ _ _ _ _ _ | show ∃ x', _ < _ ∧ _) | (show AW _ _ (.ret) _ _ _; refine Ar ?_; try dsimp only [Ao, Aa, Am, Ab])
    | (show DL _ _ _ _ _ _ _; refine dl_d Y Y (fun K kt kf => Au hG Y Y Y Y Y kt kf) (fun h => ?_) (fun h => ?_))
    | (show DL _ _ _ _ _ _ _; refine dl_s Y Y Y ?_) | (show DL _ _ _ _ _ _ _; refine Bk ?_; first | show AW _ _ _ _ _ _ | show ∃ x', _ < _ ∧ _) | (show AW _ _ (.region _ _ true) _ _ _; refine Ba mix (by kernel_rfl) ?_; intro O1) | fail)
      refine Bb (A1 rfl A0) (.eq ?_) rfl
      have : a = b := List.ext_getElem hlen fun j h1 h2 => by
        have := hp j (by omega)
        simpa [List.getD_eq_getElem?_getD, List.getElem?_eq_getElem, h1, h2] using this
      rw [decide_eq_true this]; rfl
  · repeat' (first
    | ((first | (show AL _ _ _ _ _ _ _ _; refine Ad Y ?_) | (show DL _ _ _ _ _ _ _; refine' Be Y Y (fun K kk => ?_) ?_; try (show Go.Ts.T; rotate_left))); (first
      | (show AOp _ _ ⟨_, .move _, _, _, _, _⟩ _ _ _; refine Aq hG Y Y ?_)
      | (show AOp _ _ ⟨_, .assign _, _, _, _, _⟩ _ _ _; refine Az hG Y Y ?_)
      | (show AOp _ _ ⟨_, .call ⟨.builtin .len, _, _⟩, _, _, _, _⟩ _ _ _; first | refine Bc hG Y Y Y Y ?_ | refine Bj hG Y Y Y Y Y ?_)
      | (show AOp _ _ ⟨_, .binOp .add _ _ _ _, _, _, _, _⟩ _ _ _; first | refine A3 hG Y Y Y Y Y (by omega) ?_)
      | (show AOp _ _ ⟨_, .binOp _ _ _ _ _, _, _, _, _⟩ _ _ _; first | refine Aw hG Y Y Y Y Y (by omega) ?_ | refine Av hG Y Y Y Y Y (by omega) ?_ | ((fail_if_success have := kk); refine Au hG Y Y Y Y Y (fun h => ?_) (fun h => ?_)))
      | (show AOp _ _ ⟨_, .load _ _, _, _, _, _⟩ _ _ _; first | refine Br hG Y Y Y ?_ | refine Ap 0 hG Y Y Y Y ?_)
      | (show AOp _ _ ⟨_, .indexAddr _ _ _, _, _, _, _⟩ _ _ _; first | refine Bp hG Y Y Y Y Y Y Y (by omega) ?_ | refine Bq hG Y Y Y Y Y Y Y (by omega) ?_ | refine r_idx hG Y Y ?_)
      | refine r_q hG Y Y Y ?_); try exact kk)
    | (show AL _ _ _ _ _ _ _ _; first | refine A9 Y Y Y ?_ | (refine Al ?_; first | show AW _ _ _ _ _ _ | show ∃ x', _ < _ ∧ _)) | (show AW _ _ (.seq _ _) _ _ _; refine Af ?_; intro Q1) | (show AW _ _ (.region _ _ false) _ _ _; refine Ae ?_; intro O1) | (show AW _ _ (.cond _ _ _) _ _ _; first | refine Ai Y ?_ | refine Aj Y ?_) | (show AW _ _ (.skip) _ _ _; refine Ag ?_; first | show AW _ _ _ _ _ _ | show ∃ x', _ < _ ∧ _) | (show AW _ _ (.block _ _) _ _ _; refine Ax ?_; intro Q1) | (show AW _ _ (.exit _) _ _ _; refine B5 ?_; first | show AW _ _ _ _ _ _ | show ∃ x', _ < _ ∧ _) | (show AW _ _ (.ret) _ _ _; refine Ar ?_; try dsimp only [Ao, Aa, Am, Ab])
    | (show DL _ _ _ _ _ _ _; refine dl_d Y Y (fun K kt kf => Au hG Y Y Y Y Y kt kf) (fun h => ?_) (fun h => ?_))
    | (show DL _ _ _ _ _ _ _; refine dl_s Y Y Y ?_) | (show DL _ _ _ _ _ _ _; refine Bk ?_; first | show AW _ _ _ _ _ _ | show ∃ x', _ < _ ∧ _) | (show AW _ _ (.region _ _ true) _ _ _; refine Ba mix (by kernel_rfl) ?_; intro O1) | fail)
    refine Bb (A1 rfl A0) (.eq ?_) rfl
    rw [decide_eq_false (fun h => hlen (by rw [h]))]; rfl
end Go.Proofs.Ytholeicgmkjadaa
namespace Go.Proofs.Ytholeicgmkjadaa
open Go.Ts Go.Sets
attribute [local irreducible] Go.Ts.AW Go.Ts.AOps Go.Ts.AL Go.Ts.AOp Go.Ts.ACalls Go.Ts.DL Go.Ts.DQ Go.Ts.EL
def setsV (a b c : List UInt16) : T := .agg [cT a, cT b, cT c]
theorem sets_wk {x y z : T} {a b c : List UInt16} (hx : catsT x = some a) (hy : catsT y = some b) (hz : catsT z = some c) : Wk (.agg [x, y, z]) (setsV a b c) := Wk.aggL (wk3 (catsT_wk hx) (catsT_wk hy) (catsT_wk hz))
def maySetsB (a b c : List UInt16) : Bool := mayC a && mayC b && mayC c && decide (a.length + b.length + c.length ≤ 16) && decide ((mergeK kOr a (mergeK kOr b c)).length = a.length + b.length + c.length)
structure SMX (a b c : List UInt16) where
  i : Nat
  k : Nat
  hi : i ≤ 3
  hp : ∀ j, j < i → mayC ([a, b, c].getD j default) = true
theorem mayC_le {a : List UInt16} (h : mayC a = true) : a.length ≤ 16 := by
  unfold mayC at h; rw [Bool.and_eq_true, decide_eq_true_eq] at h; exact h.1
theorem sets_May {x y z : T} {a b c : List UInt16} (hx : catsT x = some a) (hy : catsT y = some b) (hz : catsT z = some c) (ha : a.length ≤ 140737488351232) (hb : b.length ≤ 140737488351232) (hc : c.length ≤ 140737488351232) :
    Pure Try.prog 81 [.agg [x, y, z]] (.bool (maySetsB a b c)) := by
  refine Pure.weak (us := [setsV a b c]) ?_ (wk1 (sets_wk hx hy hz))
  intro off
  refine A5 (N := 48) (rs := [.tmp 2]) hG Try.func81 rfl rfl rfl rfl rfl ?_
  repeat' (first
    | ((first | (show AL _ _ _ _ _ _ _ _; refine Ad Y ?_) | (show DL _ _ _ _ _ _ _; refine' Be Y Y (fun K kk => ?_) ?_; try (show Go.Ts.T; rotate_left))); (first
      | (show AOp _ _ ⟨_, .move _, _, _, _, _⟩ _ _ _; refine Aq hG Y Y ?_)
      | (show AOp _ _ ⟨_, .assign _, _, _, _, _⟩ _ _ _; refine Az hG Y Y ?_)
      | (show AOp _ _ ⟨_, .call ⟨.builtin .len, _, _⟩, _, _, _, _⟩ _ _ _; first | refine Bc hG Y Y Y Y ?_ | refine Bj hG Y Y Y Y Y ?_)
      | (show AOp _ _ ⟨_, .binOp .add _ _ _ _, _, _, _, _⟩ _ _ _; first | refine A3 hG Y Y Y Y Y (by omega) ?_)
      | (show AOp _ _ ⟨_, .binOp _ _ _ _ _, _, _, _, _⟩ _ _ _; first | refine Aw hG Y Y Y Y Y (by omega) ?_ | refine Av hG Y Y Y Y Y (by omega) ?_ | ((fail_if_success have := kk); refine Au hG Y Y Y Y Y (fun h => ?_) (fun h => ?_)))
      | (show AOp _ _ ⟨_, .load _ _, _, _, _, _⟩ _ _ _; first | refine Br hG Y Y Y ?_ | refine Ap 0 hG Y Y Y Y ?_ | refine Ap 1 hG Y Y Y Y ?_)
      | (show AOp _ _ ⟨_, .indexAddr _ _ _, _, _, _, _⟩ _ _ _; first | refine Bp hG Y Y Y Y Y Y Y (by omega) ?_ | refine Bq hG Y Y Y Y Y Y Y (by omega) ?_ | refine r_idx hG Y Y ?_)
      | (show AOp _ _ ⟨_, .pick _ _ _, _, _, _, _⟩ _ _ _; refine B2 hG Y Y Y ?_)
      | (show AOp _ _ ⟨_, .unOp _ _ _, _, _, _, _⟩ _ _ _; refine r_not hG Y Y Y ?_)
      | (show AOp _ _ ⟨_, .buildSlice _ _ _, _, _, _, _⟩ _ _ _; first | refine r_mk (sz := 1) hG Y Y Y Y Y Y Y ?_)
      | (show AOp _ _ ⟨_, .box _ _, _, _, _, _⟩ _ _ _; refine r_box hG Y Y Y (fun i => ?_))
      | refine r_q hG Y Y Y ?_); try exact kk)
    | (show AL _ _ _ _ _ _ _ _; first | refine A9 Y Y Y ?_ | (refine Al ?_; first | show AW _ _ _ _ _ _ | show ∃ x', _ < _ ∧ _)) | (show AW _ _ (.seq _ _) _ _ _; refine Af ?_; intro Q1) | (show AW _ _ (.region _ _ false) _ _ _; refine Ae ?_; intro O1) | (show AW _ _ (.cond _ _ _) _ _ _; first | refine Ai Y ?_ | refine Aj Y ?_) | (show AW _ _ (.skip) _ _ _; refine Ag ?_; first | show AW _ _ _ _ _ _ | show ∃ x', _ < _ ∧ _) | (show AW _ _ (.block _ _) _ _ _; refine Ax ?_; intro Q1) | (show AW _ _ (.exit _) _ _ _; refine B5 ?_; first | show AW _ _ _ _ _ _ | show ∃ x', _ < _ ∧ _) | (show AW _ _ (.ret) _ _ _; refine Ar ?_; try dsimp only [Ao, Aa, Am, Ab])
    | (show DL _ _ _ _ _ _ _; refine dl_d Y Y (fun K kt kf => Au hG Y Y Y Y Y kt kf) (fun h => ?_) (fun h => ?_))
    | (show DL _ _ _ _ _ _ _; refine dl_s Y Y Y ?_) | (show DL _ _ _ _ _ _ _; refine Bk ?_; first | show AW _ _ _ _ _ _ | show ∃ x', _ < _ ∧ _) | (show AW _ _ (.region _ _ true) _ _ _; refine Ba mix (by kernel_rfl) ?_; intro O1) | fail)
  refine aw_loop (X := SMX a b c) (fun x => [(1, .ptr x.k 0), (12, .sl 1 .no ([a, b, c].map cT)), (13, .int .i64 3), (14, .int .i64 x.i)]) (fun x => ⟨[(x.k, .cells [cT a, cT b, cT c])], [], off, none⟩) (fun x => 3 - x.i) ⟨0, i, by omega, fun j hj => by omega⟩ ?_ (.refl _) ?_
  · exact .cons rfl (.consW rfl (Wk.own _ _ _) (.cons rfl (.consW rfl (.int rfl) (.nil _))))
  rintro ⟨j, i, hj, hp⟩
  dsimp only
  have h3 : [a, b, c].length = 3 := rfl
  by_cases hj3 : j < 3
  · have hl : ([a, b, c].getD j default).length ≤ 140737488351232 := by
      rcases (by omega : j = 0 ∨ j = 1 ∨ j = 2) with rfl | rfl | rfl <;> simp <;> omega
    have hm := cats_May (As _) hl
    cases hma : mayC ([a, b, c].getD j default) <;> rw [hma] at hm
    · repeat' (first
    | ((first | (show AL _ _ _ _ _ _ _ _; refine Ad Y ?_) | (show DL _ _ _ _ _ _ _; refine' Be Y Y (fun K kk => ?_) ?_; try (show Go.Ts.T; rotate_left))); (first
      | (show AOp _ _ ⟨_, .move _, _, _, _, _⟩ _ _ _; refine Aq hG Y Y ?_)
      | (show AOp _ _ ⟨_, .assign _, _, _, _, _⟩ _ _ _; refine Az hG Y Y ?_)
      | (show AOp _ _ ⟨_, .call ⟨.builtin .len, _, _⟩, _, _, _, _⟩ _ _ _; first | refine Bc hG Y Y Y Y ?_ | refine Bj hG Y Y Y Y Y ?_)
      | (show AOp _ _ ⟨_, .binOp .add _ _ _ _, _, _, _, _⟩ _ _ _; first | refine A3 hG Y Y Y Y Y (by omega) ?_)
      | (show AOp _ _ ⟨_, .binOp _ _ _ _ _, _, _, _, _⟩ _ _ _; first | refine Aw hG Y Y Y Y Y (by omega) ?_ | refine Av hG Y Y Y Y Y (by omega) ?_ | ((fail_if_success have := kk); refine Au hG Y Y Y Y Y (fun h => ?_) (fun h => ?_)))
      | (show AOp _ _ ⟨_, .load _ _, _, _, _, _⟩ _ _ _; first | refine Br hG Y Y Y ?_ | refine Ap 0 hG Y Y Y Y ?_ | refine Ap 1 hG Y Y Y Y ?_)
      | (show AOp _ _ ⟨_, .indexAddr _ _ _, _, _, _, _⟩ _ _ _; first | refine Bp hG Y Y Y Y Y Y Y (by omega) ?_ | refine Bq hG Y Y Y Y Y Y Y (by omega) ?_ | refine r_idx hG Y Y ?_)
      | (show AOp _ _ ⟨_, .pick _ _ _, _, _, _, _⟩ _ _ _; refine B2 hG Y Y Y ?_)
      | (show AOp _ _ ⟨_, .unOp _ _ _, _, _, _, _⟩ _ _ _; refine r_not hG Y Y Y ?_)
      | (show AOp _ _ ⟨_, .buildSlice _ _ _, _, _, _, _⟩ _ _ _; first | refine r_mk (sz := 1) hG Y Y Y Y Y Y Y ?_)
      | (show AOp _ _ ⟨_, .box _ _, _, _, _, _⟩ _ _ _; refine r_box hG Y Y Y (fun i => ?_))
      | (show AOp _ _ ⟨_, .call ⟨.value _, _, _⟩, _, _, _, _⟩ _ _ _; first | refine A4 Y Y Y Y Y (by apply hm <;> (first | assumption | omega | exact Ac _ _ | exact Ah _ | exact Ak _ _ | exact As _ | rfl | (simp; omega))) ?_ | fail)
      | refine r_q hG Y Y Y ?_); try exact kk)
    | (show AL _ _ _ _ _ _ _ _; first | refine A9 Y Y Y ?_ | (refine Al ?_; first | show AW _ _ _ _ _ _ | show ∃ x', _ < _ ∧ _)) | (show AW _ _ (.seq _ _) _ _ _; refine Af ?_; intro Q1) | (show AW _ _ (.region _ _ false) _ _ _; refine Ae ?_; intro O1) | (show AW _ _ (.cond _ _ _) _ _ _; first | refine Ai Y ?_ | refine Aj Y ?_) | (show AW _ _ (.skip) _ _ _; refine Ag ?_; first | show AW _ _ _ _ _ _ | show ∃ x', _ < _ ∧ _) | (show AW _ _ (.block _ _) _ _ _; refine Ax ?_; intro Q1) | (show AW _ _ (.exit _) _ _ _; refine B5 ?_; first | show AW _ _ _ _ _ _ | show ∃ x', _ < _ ∧ _) | (show AW _ _ (.ret) _ _ _; refine Ar ?_; try dsimp only [Ao, Aa, Am, Ab])
    | (show DL _ _ _ _ _ _ _; refine dl_d Y Y (fun K kt kf => Au hG Y Y Y Y Y kt kf) (fun h => ?_) (fun h => ?_))
    | (show DL _ _ _ _ _ _ _; refine dl_s Y Y Y ?_) | (show DL _ _ _ _ _ _ _; refine Bk ?_; first | show AW _ _ _ _ _ _ | show ∃ x', _ < _ ∧ _) | (show AW _ _ (.region _ _ true) _ _ _; refine Ba mix (by kernel_rfl) ?_; intro O1) | fail)
      refine Bb (A1 rfl A0) (.eq ?_) rfl
      have : maySetsB a b c = false := by
        rcases (by omega : j = 0 ∨ j = 1 ∨ j = 2) with rfl | rfl | rfl <;> (simp at hma; simp [maySetsB, hma])
      rw [this]; rfl
    · repeat' (first
    | ((first | (show AL _ _ _ _ _ _ _ _; refine Ad Y ?_) | (show DL _ _ _ _ _ _ _; refine' Be Y Y (fun K kk => ?_) ?_; try (show Go.Ts.T; rotate_left))); (first
      | (show AOp _ _ ⟨_, .move _, _, _, _, _⟩ _ _ _; refine Aq hG Y Y ?_)
      | (show AOp _ _ ⟨_, .assign _, _, _, _, _⟩ _ _ _; refine Az hG Y Y ?_)
      | (show AOp _ _ ⟨_, .call ⟨.builtin .len, _, _⟩, _, _, _, _⟩ _ _ _; first | refine Bc hG Y Y Y Y ?_ | refine Bj hG Y Y Y Y Y ?_)
      | (show AOp _ _ ⟨_, .binOp .add _ _ _ _, _, _, _, _⟩ _ _ _; first | refine A3 hG Y Y Y Y Y (by omega) ?_)
      | (show AOp _ _ ⟨_, .binOp _ _ _ _ _, _, _, _, _⟩ _ _ _; first | refine Aw hG Y Y Y Y Y (by omega) ?_ | refine Av hG Y Y Y Y Y (by omega) ?_ | ((fail_if_success have := kk); refine Au hG Y Y Y Y Y (fun h => ?_) (fun h => ?_)))
      | (show AOp _ _ ⟨_, .load _ _, _, _, _, _⟩ _ _ _; first | refine Br hG Y Y Y ?_ | refine Ap 0 hG Y Y Y Y ?_ | refine Ap 1 hG Y Y Y Y ?_)
      | (show AOp _ _ ⟨_, .indexAddr _ _ _, _, _, _, _⟩ _ _ _; first | refine Bp hG Y Y Y Y Y Y Y (by omega) ?_ | refine Bq hG Y Y Y Y Y Y Y (by omega) ?_ | refine r_idx hG Y Y ?_)
      | (show AOp _ _ ⟨_, .pick _ _ _, _, _, _, _⟩ _ _ _; refine B2 hG Y Y Y ?_)
      | (show AOp _ _ ⟨_, .unOp _ _ _, _, _, _, _⟩ _ _ _; refine r_not hG Y Y Y ?_)
      | (show AOp _ _ ⟨_, .buildSlice _ _ _, _, _, _, _⟩ _ _ _; first | refine r_mk (sz := 1) hG Y Y Y Y Y Y Y ?_)
      | (show AOp _ _ ⟨_, .box _ _, _, _, _, _⟩ _ _ _; refine r_box hG Y Y Y (fun i => ?_))
      | (show AOp _ _ ⟨_, .call ⟨.value _, _, _⟩, _, _, _, _⟩ _ _ _; first | refine A4 Y Y Y Y Y (by apply hm <;> (first | assumption | omega | exact Ac _ _ | exact Ah _ | exact Ak _ _ | exact As _ | rfl | (simp; omega))) ?_ | fail)
      | refine r_q hG Y Y Y ?_); try exact kk)
    | (show AL _ _ _ _ _ _ _ _; first | refine A9 Y Y Y ?_ | (refine Al ?_; first | show AW _ _ _ _ _ _ | show ∃ x', _ < _ ∧ _)) | (show AW _ _ (.seq _ _) _ _ _; refine Af ?_; intro Q1) | (show AW _ _ (.region _ _ false) _ _ _; refine Ae ?_; intro O1) | (show AW _ _ (.cond _ _ _) _ _ _; first | refine Ai Y ?_ | refine Aj Y ?_) | (show AW _ _ (.skip) _ _ _; refine Ag ?_; first | show AW _ _ _ _ _ _ | show ∃ x', _ < _ ∧ _) | (show AW _ _ (.block _ _) _ _ _; refine Ax ?_; intro Q1) | (show AW _ _ (.exit _) _ _ _; refine B5 ?_; first | show AW _ _ _ _ _ _ | show ∃ x', _ < _ ∧ _) | (show AW _ _ (.ret) _ _ _; refine Ar ?_; try dsimp only [Ao, Aa, Am, Ab])
    | (show DL _ _ _ _ _ _ _; refine dl_d Y Y (fun K kt kf => Au hG Y Y Y Y Y kt kf) (fun h => ?_) (fun h => ?_))
    | (show DL _ _ _ _ _ _ _; refine dl_s Y Y Y ?_) | (show DL _ _ _ _ _ _ _; refine Bk ?_; first | show AW _ _ _ _ _ _ | show ∃ x', _ < _ ∧ _) | (show AW _ _ (.region _ _ true) _ _ _; refine Ba mix (by kernel_rfl) ?_; intro O1) | fail)
      refine ⟨⟨j + 1, i, by omega, fun j' h => ?_⟩, by dsimp only; omega, ?_, .refl _⟩
      · by_cases h2 : j' < j
        · exact hp j' h2
        · obtain rfl : j' = j := by omega
          exact hma
      · exact .cons rfl (.cons rfl (.cons rfl (.consW rfl (.int (by simp)) (.nil _))))
  · obtain rfl : j = 3 := by omega
    have q1 : mayC a = true := hp 0 (by omega)
    have q2 : mayC b = true := hp 1 (by omega)
    have q3 : mayC c = true := hp 2 (by omega)
    have p1 := mayC_le q1
    have p2 := mayC_le q2
    have p3 := mayC_le q3
    have hm1 := merge_length_le kOr b c
    have hm2 := merge_length_le kOr a (mergeK kOr b c)
    by_cases hn : a.length + b.length + c.length ≤ 16
    · by_cases he : (mergeK kOr a (mergeK kOr b c)).length = a.length + b.length + c.length
      · repeat' (first
    | ((first | (show AL _ _ _ _ _ _ _ _; refine Ad Y ?_) | (show DL _ _ _ _ _ _ _; refine' Be Y Y (fun K kk => ?_) ?_; try (show Go.Ts.T; rotate_left))); (first
      | (show AOp _ _ ⟨_, .move _, _, _, _, _⟩ _ _ _; refine Aq hG Y Y ?_)
      | (show AOp _ _ ⟨_, .assign _, _, _, _, _⟩ _ _ _; refine Az hG Y Y ?_)
      | (show AOp _ _ ⟨_, .call ⟨.builtin .len, _, _⟩, _, _, _, _⟩ _ _ _; first | refine Bc hG Y Y Y Y ?_ | refine Bj hG Y Y Y Y Y ?_)
      | (show AOp _ _ ⟨_, .binOp .add _ _ _ _, _, _, _, _⟩ _ _ _; first | refine A3 hG Y Y Y Y Y (by omega) ?_)
      | (show AOp _ _ ⟨_, .binOp _ _ _ _ _, _, _, _, _⟩ _ _ _; first | refine Aw hG Y Y Y Y Y (by omega) ?_ | refine Av hG Y Y Y Y Y (by omega) ?_ | ((fail_if_success have := kk); refine Au hG Y Y Y Y Y (fun h => ?_) (fun h => ?_)))
      | (show AOp _ _ ⟨_, .load _ _, _, _, _, _⟩ _ _ _; first | refine Br hG Y Y Y ?_ | refine Ap 0 hG Y Y Y Y ?_ | refine Ap 1 hG Y Y Y Y ?_)
      | (show AOp _ _ ⟨_, .indexAddr _ _ _, _, _, _, _⟩ _ _ _; first | refine Bp hG Y Y Y Y Y Y Y (by omega) ?_ | refine Bq hG Y Y Y Y Y Y Y (by omega) ?_ | refine r_idx hG Y Y ?_)
      | (show AOp _ _ ⟨_, .pick _ _ _, _, _, _, _⟩ _ _ _; refine B2 hG Y Y Y ?_)
      | (show AOp _ _ ⟨_, .unOp _ _ _, _, _, _, _⟩ _ _ _; refine r_not hG Y Y Y ?_)
      | (show AOp _ _ ⟨_, .buildSlice _ _ _, _, _, _, _⟩ _ _ _; first | refine r_mk (sz := 1) hG Y Y Y Y Y Y Y ?_)
      | (show AOp _ _ ⟨_, .box _ _, _, _, _, _⟩ _ _ _; refine r_box hG Y Y Y (fun i => ?_))
      | (show AOp _ _ ⟨_, .call ⟨.value _, _, _⟩, _, _, _, _⟩ _ _ _; first | ((fail_if_success have := kk); refine r_owns Y Y Y Y Y (by apply cats_Or <;> (first | assumption | omega | exact Ac _ _ | exact Ah _ | exact Ak _ _ | exact As _ | rfl | (simp; omega))) (fun k => ?_)) | (have := kk; clear this; refine A4 Y Y Y Y Y (Owns.pure (by apply cats_Or <;> (first | assumption | omega | exact Ac _ _ | exact Ah _ | exact Ak _ _ | exact As _ | rfl | (simp; omega)))) ?_) | fail)
      | refine r_q hG Y Y Y ?_); try exact kk)
    | (show AL _ _ _ _ _ _ _ _; first | refine A9 Y Y Y ?_ | (refine Al ?_; first | show AW _ _ _ _ _ _ | show ∃ x', _ < _ ∧ _)) | (show AW _ _ (.seq _ _) _ _ _; refine Af ?_; intro Q1) | (show AW _ _ (.region _ _ false) _ _ _; refine Ae ?_; intro O1) | (show AW _ _ (.cond _ _ _) _ _ _; first | refine Ai Y ?_ | refine Aj Y ?_) | (show AW _ _ (.skip) _ _ _; refine Ag ?_; first | show AW _ _ _ _ _ _ | show ∃ x', _ < _ ∧ _) | (show AW _ _ (.block _ _) _ _ _; refine Ax ?_; intro Q1) | (show AW _ _ (.exit _) _ _ _; refine B5 ?_; first | show AW _ _ _ _ _ _ | show ∃ x', _ < _ ∧ _) | (show AW _ _ (.ret) _ _ _; refine Ar ?_; try dsimp only [Ao, Aa, Am, Ab])
    | (show DL _ _ _ _ _ _ _; refine dl_d Y Y (fun K kt kf => Au hG Y Y Y Y Y kt kf) (fun h => ?_) (fun h => ?_))
    | (show DL _ _ _ _ _ _ _; refine dl_s Y Y Y ?_) | (show DL _ _ _ _ _ _ _; refine Bk ?_; first | show AW _ _ _ _ _ _ | show ∃ x', _ < _ ∧ _) | (show AW _ _ (.region _ _ true) _ _ _; refine Ba mix (by kernel_rfl) ?_; intro O1) | fail)
        exact Bb (A1 rfl A0) (.eq (by rw [show maySetsB a b c = true by unfold maySetsB; simp only [q1, q2, q3, decide_eq_true hn, decide_eq_true he]; rfl]; rfl)) rfl
      · repeat' (first
    | ((first | (show AL _ _ _ _ _ _ _ _; refine Ad Y ?_) | (show DL _ _ _ _ _ _ _; refine' Be Y Y (fun K kk => ?_) ?_; try (show Go.Ts.T; rotate_left))); (first
      | (show AOp _ _ ⟨_, .move _, _, _, _, _⟩ _ _ _; refine Aq hG Y Y ?_)
      | (show AOp _ _ ⟨_, .assign _, _, _, _, _⟩ _ _ _; refine Az hG Y Y ?_)
      | (show AOp _ _ ⟨_, .call ⟨.builtin .len, _, _⟩, _, _, _, _⟩ _ _ _; first | refine Bc hG Y Y Y Y ?_ | refine Bj hG Y Y Y Y Y ?_)
      | (show AOp _ _ ⟨_, .binOp .add _ _ _ _, _, _, _, _⟩ _ _ _; first | refine A3 hG Y Y Y Y Y (by omega) ?_)
      | (show AOp _ _ ⟨_, .binOp _ _ _ _ _, _, _, _, _⟩ _ _ _; first | refine Aw hG Y Y Y Y Y (by omega) ?_ | refine Av hG Y Y Y Y Y (by omega) ?_ | ((fail_if_success have := kk); refine Au hG Y Y Y Y Y (fun h => ?_) (fun h => ?_)))
      | (show AOp _ _ ⟨_, .load _ _, _, _, _, _⟩ _ _ _; first | refine Br hG Y Y Y ?_ | refine Ap 0 hG Y Y Y Y ?_ | refine Ap 1 hG Y Y Y Y ?_)
      | (show AOp _ _ ⟨_, .indexAddr _ _ _, _, _, _, _⟩ _ _ _; first | refine Bp hG Y Y Y Y Y Y Y (by omega) ?_ | refine Bq hG Y Y Y Y Y Y Y (by omega) ?_ | refine r_idx hG Y Y ?_)
      | (show AOp _ _ ⟨_, .pick _ _ _, _, _, _, _⟩ _ _ _; refine B2 hG Y Y Y ?_)
      | (show AOp _ _ ⟨_, .unOp _ _ _, _, _, _, _⟩ _ _ _; refine r_not hG Y Y Y ?_)
      | (show AOp _ _ ⟨_, .buildSlice _ _ _, _, _, _, _⟩ _ _ _; first | refine r_mk (sz := 1) hG Y Y Y Y Y Y Y ?_)
      | (show AOp _ _ ⟨_, .box _ _, _, _, _, _⟩ _ _ _; refine r_box hG Y Y Y (fun i => ?_))
      | (show AOp _ _ ⟨_, .call ⟨.value _, _, _⟩, _, _, _, _⟩ _ _ _; first | ((fail_if_success have := kk); refine r_owns Y Y Y Y Y (by apply cats_Or <;> (first | assumption | omega | exact Ac _ _ | exact Ah _ | exact Ak _ _ | exact As _ | rfl | (simp; omega))) (fun k => ?_)) | (have := kk; clear this; refine A4 Y Y Y Y Y (Owns.pure (by apply cats_Or <;> (first | assumption | omega | exact Ac _ _ | exact Ah _ | exact Ak _ _ | exact As _ | rfl | (simp; omega)))) ?_) | fail)
      | refine r_q hG Y Y Y ?_); try exact kk)
    | (show AL _ _ _ _ _ _ _ _; first | refine A9 Y Y Y ?_ | (refine Al ?_; first | show AW _ _ _ _ _ _ | show ∃ x', _ < _ ∧ _)) | (show AW _ _ (.seq _ _) _ _ _; refine Af ?_; intro Q1) | (show AW _ _ (.region _ _ false) _ _ _; refine Ae ?_; intro O1) | (show AW _ _ (.cond _ _ _) _ _ _; first | refine Ai Y ?_ | refine Aj Y ?_) | (show AW _ _ (.skip) _ _ _; refine Ag ?_; first | show AW _ _ _ _ _ _ | show ∃ x', _ < _ ∧ _) | (show AW _ _ (.block _ _) _ _ _; refine Ax ?_; intro Q1) | (show AW _ _ (.exit _) _ _ _; refine B5 ?_; first | show AW _ _ _ _ _ _ | show ∃ x', _ < _ ∧ _) | (show AW _ _ (.ret) _ _ _; refine Ar ?_; try dsimp only [Ao, Aa, Am, Ab])
    | (show DL _ _ _ _ _ _ _; refine dl_d Y Y (fun K kt kf => Au hG Y Y Y Y Y kt kf) (fun h => ?_) (fun h => ?_))
    | (show DL _ _ _ _ _ _ _; refine dl_s Y Y Y ?_) | (show DL _ _ _ _ _ _ _; refine Bk ?_; first | show AW _ _ _ _ _ _ | show ∃ x', _ < _ ∧ _) | (show AW _ _ (.region _ _ true) _ _ _; refine Ba mix (by kernel_rfl) ?_; intro O1) | fail)
        exact Bb (A1 rfl A0) (.eq (by rw [show maySetsB a b c = false by unfold maySetsB; simp only [q1, q2, q3, decide_eq_true hn, decide_eq_false he]; rfl]; rfl)) rfl
    · repeat' (first
    | ((first | (show AL _ _ _ _ _ _ _ _; refine Ad Y ?_) | (show DL _ _ _ _ _ _ _; refine' Be Y Y (fun K kk => ?_) ?_; try (show Go.Ts.T; rotate_left))); (first
      | (show AOp _ _ ⟨_, .move _, _, _, _, _⟩ _ _ _; refine Aq hG Y Y ?_)
      | (show AOp _ _ ⟨_, .assign _, _, _, _, _⟩ _ _ _; refine Az hG Y Y ?_)
      | (show AOp _ _ ⟨_, .call ⟨.builtin .len, _, _⟩, _, _, _, _⟩ _ _ _; first | refine Bc hG Y Y Y Y ?_ | refine Bj hG Y Y Y Y Y ?_)
      | (show AOp _ _ ⟨_, .binOp .add _ _ _ _, _, _, _, _⟩ _ _ _; first | refine A3 hG Y Y Y Y Y (by omega) ?_)
      | (show AOp _ _ ⟨_, .binOp _ _ _ _ _, _, _, _, _⟩ _ _ _; first | refine Aw hG Y Y Y Y Y (by omega) ?_ | refine Av hG Y Y Y Y Y (by omega) ?_ | ((fail_if_success have := kk); refine Au hG Y Y Y Y Y (fun h => ?_) (fun h => ?_)))
      | (show AOp _ _ ⟨_, .load _ _, _, _, _, _⟩ _ _ _; first | refine Br hG Y Y Y ?_ | refine Ap 0 hG Y Y Y Y ?_ | refine Ap 1 hG Y Y Y Y ?_)
      | (show AOp _ _ ⟨_, .indexAddr _ _ _, _, _, _, _⟩ _ _ _; first | refine Bp hG Y Y Y Y Y Y Y (by omega) ?_ | refine Bq hG Y Y Y Y Y Y Y (by omega) ?_ | refine r_idx hG Y Y ?_)
      | (show AOp _ _ ⟨_, .pick _ _ _, _, _, _, _⟩ _ _ _; refine B2 hG Y Y Y ?_)
      | (show AOp _ _ ⟨_, .unOp _ _ _, _, _, _, _⟩ _ _ _; refine r_not hG Y Y Y ?_)
      | (show AOp _ _ ⟨_, .buildSlice _ _ _, _, _, _, _⟩ _ _ _; first | refine r_mk (sz := 1) hG Y Y Y Y Y Y Y ?_)
      | (show AOp _ _ ⟨_, .box _ _, _, _, _, _⟩ _ _ _; refine r_box hG Y Y Y (fun i => ?_))
      | refine r_q hG Y Y Y ?_); try exact kk)
    | (show AL _ _ _ _ _ _ _ _; first | refine A9 Y Y Y ?_ | (refine Al ?_; first | show AW _ _ _ _ _ _ | show ∃ x', _ < _ ∧ _)) | (show AW _ _ (.seq _ _) _ _ _; refine Af ?_; intro Q1) | (show AW _ _ (.region _ _ false) _ _ _; refine Ae ?_; intro O1) | (show AW _ _ (.cond _ _ _) _ _ _; first | refine Ai Y ?_ | refine Aj Y ?_) | (show AW _ _ (.skip) _ _ _; refine Ag ?_; first | show AW _ _ _ _ _ _ | show ∃ x', _ < _ ∧ _) | (show AW _ _ (.block _ _) _ _ _; refine Ax ?_; intro Q1) | (show AW _ _ (.exit _) _ _ _; refine B5 ?_; first | show AW _ _ _ _ _ _ | show ∃ x', _ < _ ∧ _) | (show AW _ _ (.ret) _ _ _; refine Ar ?_; try dsimp only [Ao, Aa, Am, Ab])
    | (show DL _ _ _ _ _ _ _; refine dl_d Y Y (fun K kt kf => Au hG Y Y Y Y Y kt kf) (fun h => ?_) (fun h => ?_))
    | (show DL _ _ _ _ _ _ _; refine dl_s Y Y Y ?_) | (show DL _ _ _ _ _ _ _; refine Bk ?_; first | show AW _ _ _ _ _ _ | show ∃ x', _ < _ ∧ _) | (show AW _ _ (.region _ _ true) _ _ _; refine Ba mix (by kernel_rfl) ?_; intro O1) | fail)
      exact Bb (A1 rfl A0) (.eq (by rw [show maySetsB a b c = false by unfold maySetsB; simp only [q1, q2, q3, decide_eq_false hn]; rfl]; rfl)) rfl

theorem ref_SameSets {x y z x' y' z' : T} {a b c a' b' c' : List UInt16} (hx : catsT x = some a) (hy : catsT y = some b) (hz : catsT z = some c) (hx' : catsT x' = some a') (hy' : catsT y' = some b') (hz' : catsT z' = some c')
    (ha : a.length ≤ 1000000000) (hb : b.length ≤ 1000000000) (hc : c.length ≤ 1000000000) (ha' : a'.length ≤ 1000000000) (hb' : b'.length ≤ 1000000000) (hc' : c'.length ≤ 1000000000) :
    Pure Try.prog 29 [.agg [x, y, z], .agg [x', y', z']] (.bool (decide (a = a' ∧ b = b' ∧ c = c'))) := by
  refine Pure.weak (us := [setsV a b c, setsV a' b' c']) ?_ (wk2 (sets_wk hx hy hz) (sets_wk hx' hy' hz'))
  intro off
  refine A5 (N := 24) (rs := [.tmp 4]) hG Try.func29 rfl rfl rfl rfl rfl ?_
  have m1 := ref_SameSet (As a) (As a') (by omega) (by omega)
  have m2 := ref_SameSet (As b) (As b') (by omega) (by omega)
  have m3 := ref_SameSet (As c) (As c') (by omega) (by omega)
  by_cases h1 : a = a'
  · rw [decide_eq_true h1] at m1
    by_cases h2 : b = b'
    · rw [decide_eq_true h2] at m2
      by_cases h3 : c = c'
      · rw [decide_eq_true h3] at m3
        repeat' (first
    | ((show AL _ _ _ _ _ _ _ _; refine Ad Y ?_); (first
      | (show AOp _ _ ⟨_, .move _, _, _, _, _⟩ _ _ _; refine Aq hG Y Y ?_)
      | (show AOp _ _ ⟨_, .assign _, _, _, _, _⟩ _ _ _; refine Az hG Y Y ?_)
      | (show AOp _ _ ⟨_, .load _ _, _, _, _, _⟩ _ _ _; first | refine Ap 0 hG Y Y Y Y ?_ | refine Ap 1 hG Y Y Y Y ?_ | refine Ap 2 hG Y Y Y Y ?_)
      | (show AOp _ _ ⟨_, .pick _ _ _, _, _, _, _⟩ _ _ _; refine B2 hG Y Y Y ?_)
      | (show AOp _ _ ⟨_, .box _ _, _, _, _, _⟩ _ _ _; refine r_box hG Y Y Y (fun i => ?_))
      | (show AOp _ _ ⟨_, .call ⟨.value _, _, _⟩, _, _, _, _⟩ _ _ _; first | refine A4 Y Y Y Y Y (by apply m1 <;> (first | assumption | omega | exact Ac _ _ | exact Ah _ | exact Ak _ _ | exact As _ | rfl | (simp; omega))) ?_ | refine A4 Y Y Y Y Y (by apply m2 <;> (first | assumption | omega | exact Ac _ _ | exact Ah _ | exact Ak _ _ | exact As _ | rfl | (simp; omega))) ?_ | refine A4 Y Y Y Y Y (by apply m3 <;> (first | assumption | omega | exact Ac _ _ | exact Ah _ | exact Ak _ _ | exact As _ | rfl | (simp; omega))) ?_ | fail)
      | refine r_q hG Y Y Y ?_))
    | (show AL _ _ _ _ _ _ _ _; first | refine A9 Y Y Y ?_ | (refine Al ?_; first | show AW _ _ _ _ _ _ | show ∃ x', _ < _ ∧ _)) | (show AW _ _ (.seq _ _) _ _ _; refine Af ?_; intro Q1) | (show AW _ _ (.region _ _ false) _ _ _; refine Ae ?_; intro O1) | (show AW _ _ (.ret) _ _ _; refine Ar ?_; try dsimp only [Ao, Aa, Am, Ab]) | fail)
        exact Bb (A1 rfl A0) (.eq (by rw [decide_eq_true ⟨h1, h2, h3⟩]; rfl)) rfl
      · rw [decide_eq_false h3] at m3
        repeat' (first
    | ((show AL _ _ _ _ _ _ _ _; refine Ad Y ?_); (first
      | (show AOp _ _ ⟨_, .move _, _, _, _, _⟩ _ _ _; refine Aq hG Y Y ?_)
      | (show AOp _ _ ⟨_, .assign _, _, _, _, _⟩ _ _ _; refine Az hG Y Y ?_)
      | (show AOp _ _ ⟨_, .load _ _, _, _, _, _⟩ _ _ _; first | refine Ap 0 hG Y Y Y Y ?_ | refine Ap 1 hG Y Y Y Y ?_ | refine Ap 2 hG Y Y Y Y ?_)
      | (show AOp _ _ ⟨_, .pick _ _ _, _, _, _, _⟩ _ _ _; refine B2 hG Y Y Y ?_)
      | (show AOp _ _ ⟨_, .box _ _, _, _, _, _⟩ _ _ _; refine r_box hG Y Y Y (fun i => ?_))
      | (show AOp _ _ ⟨_, .call ⟨.value _, _, _⟩, _, _, _, _⟩ _ _ _; first | refine A4 Y Y Y Y Y (by apply m1 <;> (first | assumption | omega | exact Ac _ _ | exact Ah _ | exact Ak _ _ | exact As _ | rfl | (simp; omega))) ?_ | refine A4 Y Y Y Y Y (by apply m2 <;> (first | assumption | omega | exact Ac _ _ | exact Ah _ | exact Ak _ _ | exact As _ | rfl | (simp; omega))) ?_ | refine A4 Y Y Y Y Y (by apply m3 <;> (first | assumption | omega | exact Ac _ _ | exact Ah _ | exact Ak _ _ | exact As _ | rfl | (simp; omega))) ?_ | fail)
      | refine r_q hG Y Y Y ?_))
    | (show AL _ _ _ _ _ _ _ _; first | refine A9 Y Y Y ?_ | (refine Al ?_; first | show AW _ _ _ _ _ _ | show ∃ x', _ < _ ∧ _)) | (show AW _ _ (.seq _ _) _ _ _; refine Af ?_; intro Q1) | (show AW _ _ (.region _ _ false) _ _ _; refine Ae ?_; intro O1) | (show AW _ _ (.ret) _ _ _; refine Ar ?_; try dsimp only [Ao, Aa, Am, Ab]) | fail)
        exact Bb (A1 rfl A0) (.eq (by rw [decide_eq_false fun h => h3 h.2.2]; rfl)) rfl
    · rw [decide_eq_false h2] at m2
      repeat' (first
    | ((show AL _ _ _ _ _ _ _ _; refine Ad Y ?_); (first
      | (show AOp _ _ ⟨_, .move _, _, _, _, _⟩ _ _ _; refine Aq hG Y Y ?_)
      | (show AOp _ _ ⟨_, .assign _, _, _, _, _⟩ _ _ _; refine Az hG Y Y ?_)
      | (show AOp _ _ ⟨_, .load _ _, _, _, _, _⟩ _ _ _; first | refine Ap 0 hG Y Y Y Y ?_ | refine Ap 1 hG Y Y Y Y ?_ | refine Ap 2 hG Y Y Y Y ?_)
      | (show AOp _ _ ⟨_, .pick _ _ _, _, _, _, _⟩ _ _ _; refine B2 hG Y Y Y ?_)
      | (show AOp _ _ ⟨_, .box _ _, _, _, _, _⟩ _ _ _; refine r_box hG Y Y Y (fun i => ?_))
      | (show AOp _ _ ⟨_, .call ⟨.value _, _, _⟩, _, _, _, _⟩ _ _ _; first | refine A4 Y Y Y Y Y (by apply m1 <;> (first | assumption | omega | exact Ac _ _ | exact Ah _ | exact Ak _ _ | exact As _ | rfl | (simp; omega))) ?_ | refine A4 Y Y Y Y Y (by apply m2 <;> (first | assumption | omega | exact Ac _ _ | exact Ah _ | exact Ak _ _ | exact As _ | rfl | (simp; omega))) ?_ | refine A4 Y Y Y Y Y (by apply m3 <;> (first | assumption | omega | exact Ac _ _ | exact Ah _ | exact Ak _ _ | exact As _ | rfl | (simp; omega))) ?_ | fail)
      | refine r_q hG Y Y Y ?_))
    | (show AL _ _ _ _ _ _ _ _; first | refine A9 Y Y Y ?_ | (refine Al ?_; first | show AW _ _ _ _ _ _ | show ∃ x', _ < _ ∧ _)) | (show AW _ _ (.seq _ _) _ _ _; refine Af ?_; intro Q1) | (show AW _ _ (.region _ _ false) _ _ _; refine Ae ?_; intro O1) | (show AW _ _ (.ret) _ _ _; refine Ar ?_; try dsimp only [Ao, Aa, Am, Ab]) | fail)
      exact Bb (A1 rfl A0) (.eq (by rw [decide_eq_false fun h => h2 h.2.1]; rfl)) rfl
  · rw [decide_eq_false h1] at m1
    repeat' (first
    | ((show AL _ _ _ _ _ _ _ _; refine Ad Y ?_); (first
      | (show AOp _ _ ⟨_, .move _, _, _, _, _⟩ _ _ _; refine Aq hG Y Y ?_)
      | (show AOp _ _ ⟨_, .assign _, _, _, _, _⟩ _ _ _; refine Az hG Y Y ?_)
      | (show AOp _ _ ⟨_, .load _ _, _, _, _, _⟩ _ _ _; first | refine Ap 0 hG Y Y Y Y ?_ | refine Ap 1 hG Y Y Y Y ?_ | refine Ap 2 hG Y Y Y Y ?_)
      | (show AOp _ _ ⟨_, .pick _ _ _, _, _, _, _⟩ _ _ _; refine B2 hG Y Y Y ?_)
      | (show AOp _ _ ⟨_, .box _ _, _, _, _, _⟩ _ _ _; refine r_box hG Y Y Y (fun i => ?_))
      | (show AOp _ _ ⟨_, .call ⟨.value _, _, _⟩, _, _, _, _⟩ _ _ _; first | refine A4 Y Y Y Y Y (by apply m1 <;> (first | assumption | omega | exact Ac _ _ | exact Ah _ | exact Ak _ _ | exact As _ | rfl | (simp; omega))) ?_ | refine A4 Y Y Y Y Y (by apply m2 <;> (first | assumption | omega | exact Ac _ _ | exact Ah _ | exact Ak _ _ | exact As _ | rfl | (simp; omega))) ?_ | refine A4 Y Y Y Y Y (by apply m3 <;> (first | assumption | omega | exact Ac _ _ | exact Ah _ | exact Ak _ _ | exact As _ | rfl | (simp; omega))) ?_ | fail)
      | refine r_q hG Y Y Y ?_))
    | (show AL _ _ _ _ _ _ _ _; first | refine A9 Y Y Y ?_ | (refine Al ?_; first | show AW _ _ _ _ _ _ | show ∃ x', _ < _ ∧ _)) | (show AW _ _ (.seq _ _) _ _ _; refine Af ?_; intro Q1) | (show AW _ _ (.region _ _ false) _ _ _; refine Ae ?_; intro O1) | (show AW _ _ (.ret) _ _ _; refine Ar ?_; try dsimp only [Ao, Aa, Am, Ab]) | fail)
    exact Bb (A1 rfl A0) (.eq (by rw [decide_eq_false fun h => h1 h.1]; rfl)) rfl

def putS (b : List UInt8) (x y z : List UInt16) : List UInt8 := putC (putC (putC b x) y) z
theorem putC_length (b : List UInt8) (a : List UInt16) : (putC b a).length ≤ b.length + 8 + 2 * a.length := by
  have := putI_le a.length 1
  rw [putC, List.length_append, List.length_append, flat2_length]; omega
theorem scode_Put {t x y z : T} {s : List UInt8} {a b c : List UInt16} (ht : bytesT t = some s) (hx : catsT x = some a) (hy : catsT y = some b) (hz : catsT z = some c) (hs : s.length ≤ 4293000000) (ha : a.length ≤ 70000) (hb : b.length ≤ 70000) (hc : c.length ≤ 70000) :
    Owns Try.prog 30 [t, .agg [x, y, z]] 1 ((putS s a b c).map bT) := by
  refine Owns.weak (us := [sT s, setsV a b c]) ?_ (wk2 (bytesT_wk ht) (sets_wk hx hy hz))
  intro off
  refine A5 (N := 15) (rs := [.tmp 4]) hG Try.func30 rfl rfl rfl rfl rfl ?_
  have l1 := putC_length s a
  have l2 := putC_length (putC s a) b
  repeat' (first
    | ((first | (show AL _ _ _ _ _ _ _ _; refine Ad Y ?_) | (show DL _ _ _ _ _ _ _; refine' Be Y Y (fun K kk => ?_) ?_; try (show Go.Ts.T; rotate_left))); (first
      | (show AOp _ _ ⟨_, .move _, _, _, _, _⟩ _ _ _; refine Aq hG Y Y ?_)
      | (show AOp _ _ ⟨_, .assign _, _, _, _, _⟩ _ _ _; refine Az hG Y Y ?_)
      | (show AOp _ _ ⟨_, .load _ _, _, _, _, _⟩ _ _ _; first | refine Ap 0 hG Y Y Y Y ?_ | refine Ap 1 hG Y Y Y Y ?_)
      | (show AOp _ _ ⟨_, .box _ _, _, _, _, _⟩ _ _ _; refine r_box hG Y Y Y (fun i => ?_))
      | refine r_q hG Y Y Y ?_); try exact kk)
    | (show AL _ _ _ _ _ _ _ _; first | refine A9 Y Y Y ?_ | (refine Al ?_; first | show AW _ _ _ _ _ _ | show ∃ x', _ < _ ∧ _)) | (show AW _ _ (.seq _ _) _ _ _; refine Af ?_; intro Q1) | (show AW _ _ (.region _ _ false) _ _ _; refine Ae ?_; intro O1) | (show AW _ _ (.ret) _ _ _; refine Ar ?_; try dsimp only [Ao, Aa, Am, Ab])
    | (show DL _ _ _ _ _ _ _; refine dl_d Y Y (fun K kt kf => Au hG Y Y Y Y Y kt kf) (fun h => ?_) (fun h => ?_))
    | (show DL _ _ _ _ _ _ _; refine dl_s Y Y Y ?_) | (show DL _ _ _ _ _ _ _; refine Bk ?_; first | show AW _ _ _ _ _ _ | show ∃ x', _ < _ ∧ _) | (show AW _ _ (.region _ _ true) _ _ _; (fail_if_success show AW _ _ (.region 1 _ _) _ _ _); refine Ba mix (by kernel_rfl) ?_; intro O1) | fail)
  refine aw_drawE' (m := 10) [3, 6, 9] (fun σ => ∃ R, σ = ⟨[(i, .cells [cT a, cT b, cT c])], R, off, none⟩) mix rfl (by repeat (first | exact Sp.zero _ | apply Sp.succ)) ?_; intro O1 F1 Z1 Q2
  repeat' (first
    | (refine' dq_cons Y Y Y (fun σ hσ K kk => ?_) ?_; (try (show Go.Ts.T; rotate_left)); (obtain ⟨R, rfl⟩ := hσ); (first
      | (show AOp _ _ ⟨_, .move _, _, _, _, _⟩ _ _ _; refine Aq hG Y Y ?_)
      | (show AOp _ _ ⟨_, .assign _, _, _, _, _⟩ _ _ _; refine Az hG Y Y ?_)
      | (show AOp _ _ ⟨_, .load _ _, _, _, _, _⟩ _ _ _; first | refine Ap 0 hG Y Y Y Y ?_ | refine Ap 1 hG Y Y Y Y ?_)
      | (show AOp _ _ ⟨_, .box _ _, _, _, _, _⟩ _ _ _; refine r_box hG Y Y Y (fun i => ?_))
      | (show AOp _ _ ⟨_, .call ⟨.value _, _, _⟩, _, _, _, _⟩ _ _ _; first | ((fail_if_success have := kk); refine r_owns Y Y Y Y Y (by apply cats_Put <;> (first | assumption | omega | exact Ac _ _ | exact Ah _ | exact Ak _ _ | exact As _ | rfl | (simp; omega))) (fun k => ?_)) | (have := kk; clear this; refine A4 Y Y Y Y Y (Owns.pure (by apply cats_Put <;> (first | assumption | omega | exact Ac _ _ | exact Ah _ | exact Ak _ _ | exact As _ | rfl | (simp; omega)))) ?_) | fail)
      | refine r_q hG Y Y Y ?_); exact kk)
    | refine dq_d Y Y Y (fun σ hσ K kt kf => by obtain ⟨R, rfl⟩ := hσ; exact Au hG Y Y Y Y Y kt kf) (fun h => ?_) (fun h => ?_)
    | refine dq_d Y Y Y (fun σ hσ K kt kf => by obtain ⟨R, rfl⟩ := hσ; exact r_str hG Y Y Y Y kt kf) (fun h => ?_) (fun h => ?_)
    | refine dq_s Y Y Y Y ?_ | refine dq_e Y ?_ | (refine dq_nil ?_; show EL _ _ _ _ _ _ _ _ _) | refine el_s ⟨_, Y⟩ Y Y Y Y ?_
    | ((first | refine el_cons ⟨_, Y⟩ Y Y Y (fun K ke => ?_) | refine el_consN ⟨_, Y⟩ Y Y Y (fun K ke => ?_)); (first
      | (show AOp _ _ ⟨_, .move _, _, _, _, _⟩ _ _ _; refine Aq hG Y Y ?_)
      | (show AOp _ _ ⟨_, .assign _, _, _, _, _⟩ _ _ _; refine Az hG Y Y ?_)
      | (show AOp _ _ ⟨_, .load _ _, _, _, _, _⟩ _ _ _; first | refine Ap 0 hG Y Y Y Y ?_ | refine Ap 1 hG Y Y Y Y ?_)
      | (show AOp _ _ ⟨_, .box _ _, _, _, _, _⟩ _ _ _; refine r_box hG Y Y Y (fun i => ?_))
      | (show AOp _ _ ⟨_, .call ⟨.value _, _, _⟩, _, _, _, _⟩ _ _ _; first | ((fail_if_success have := kk); refine r_owns Y Y Y Y Y (by apply cats_Put <;> (first | assumption | omega | exact Ac _ _ | exact Ah _ | exact Ak _ _ | exact As _ | rfl | (simp; omega))) (fun k => ?_)) | (have := kk; clear this; refine A4 Y Y Y Y Y (Owns.pure (by apply cats_Put <;> (first | assumption | omega | exact Ac _ _ | exact Ah _ | exact Ak _ _ | exact As _ | rfl | (simp; omega)))) ?_) | fail)
      | refine r_q hG Y Y Y ?_); refine ke _ _ ?_)
    | (refine el_nil ⟨_, Y⟩ ?_; show AL _ _ _ _ _ _ _ _) | fail)
  repeat' (first
    | ((first | (show AL _ _ _ _ _ _ _ _; refine Ad Y ?_) | (show DL _ _ _ _ _ _ _; refine' Be Y Y (fun K kk => ?_) ?_; try (show Go.Ts.T; rotate_left))); (first
      | (show AOp _ _ ⟨_, .move _, _, _, _, _⟩ _ _ _; refine Aq hG Y Y ?_)
      | (show AOp _ _ ⟨_, .assign _, _, _, _, _⟩ _ _ _; refine Az hG Y Y ?_)
      | (show AOp _ _ ⟨_, .load _ _, _, _, _, _⟩ _ _ _; first | refine Ap 0 hG Y Y Y Y ?_ | refine Ap 1 hG Y Y Y Y ?_)
      | (show AOp _ _ ⟨_, .box _ _, _, _, _, _⟩ _ _ _; refine r_box hG Y Y Y (fun i => ?_))
      | refine r_q hG Y Y Y ?_); try exact kk)
    | (show AL _ _ _ _ _ _ _ _; first | refine A9 Y Y Y ?_ | (refine Al ?_; first | show AW _ _ _ _ _ _ | show ∃ x', _ < _ ∧ _)) | (show AW _ _ (.seq _ _) _ _ _; refine Af ?_; intro Q1) | (show AW _ _ (.region _ _ false) _ _ _; refine Ae ?_; intro O1) | (show AW _ _ (.ret) _ _ _; refine Ar ?_; try dsimp only [Ao, Aa, Am, Ab])
    | (show DL _ _ _ _ _ _ _; refine dl_d Y Y (fun K kt kf => Au hG Y Y Y Y Y kt kf) (fun h => ?_) (fun h => ?_))
    | (show DL _ _ _ _ _ _ _; refine dl_s Y Y Y ?_) | (show DL _ _ _ _ _ _ _; refine Bk ?_; first | show AW _ _ _ _ _ _ | show ∃ x', _ < _ ∧ _) | (show AW _ _ (.region _ _ true) _ _ _; refine Ba mix (by kernel_rfl) ?_; intro O1) | fail)
  exact ret_owns 0 (A1 rfl A0) rfl rfl rfl
end Go.Proofs.Ytholeicgmkjadaa
