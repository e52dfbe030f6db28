/- Part of the proof of the law CatsBack: the texts SH, SL, S2, S3, S5, SM. No conditions. -/
import Derived.Test.YtnmpgipfbbilbaaCatsBackD
import Derived.Sort.LotA
import Derived.Sort.Walk13a
import Derived.Sort.AssemblyPlain
set_option linter.unusedSimpArgs false
set_option linter.unusedVariables false
namespace Go.Ts
theorem aw_to2 {P : Program} {N : Nat} {σ : St} {a : Env} {Q : Exit → Env → St → Prop} {c c2 : Code} (a1 : Env) (σ1 : St)
    (h : AW P N c (Az (AW P N c2 (fun e a' σ' => e = .normal ∧ Knows a' a1 ∧ σ' = σ1)) (fun e a' σ' => e = .normal ∧ Knows a' a1 ∧ σ' = σ1)) a σ)
    (rest : ∀ a', Knows a' a1 → Q .normal a' σ1) : AW P N c (Az (AW P N c2 Q) Q) a σ := by
  have key : ∀ e a' σ', (e = Exit.normal ∧ Knows a' a1 ∧ σ' = σ1) → Q e a' σ' := by
    rintro e a' σ' ⟨rfl, hk, rfl⟩; exact rest a' hk
  refine h.mono ?_
  intro e a' σ' h'
  cases e with
  | normal => exact AW.mono h' key
  | _ => exact key _ _ _ h'
end Go.Ts
namespace Go.Proofs.Ytnmpgipfbbilbaa
open Go.Ts
set_option linter.unusedSimpArgs false
set_option linter.unusedVariables false
attribute [local irreducible] Go.Ts.AW Go.Ts.AOps Go.Ts.AL Go.Ts.AOp Go.Ts.ACalls Go.Ts.DL Go.Ts.DQ0 Go.Ts.EL
open Go.Sort
structure PiX (a b n : Nat) (R : Array UInt16 × Bool) where
  s : Nat
  i : Nat
  jj : Nat
  d : Array UInt16
  hn : d.size = n
  hj : jj + s = 5
  hi : a < i ∧ i ≤ b
  hr : partialIns ltH a b s i d = R
structure SsX (d : Array UInt16) (a b I : Nat) where
  p : Nat
  hp : a < p ∧ p ≤ b
  hr : scanSorted ltH d b p = I
structure SdX (D : Array UInt16) (n top : Nat) where
  p : Nat
  d : Array UInt16
  hn : d.size = n
  hp : p ≤ top
  hr : shiftDown ltH p d = D
structure SuX (D : Array UInt16) (b n : Nat) where
  p : Nat
  d : Array UInt16
  hn : d.size = n
  hp : 0 < p ∧ p ≤ b + 1
  hr : shiftUp ltH b p d = D
theorem shiftDown_size : ∀ (p : Nat) (d : Array UInt16), (shiftDown ltH p d).size = d.size
  | 0, d => rfl
  | p + 1, d => by
    rw [shiftDown]; split
    · rfl
    · rw [shiftDown_size, size_swp]
theorem shiftUp_size (b : Nat) : ∀ (m p : Nat) (d : Array UInt16), b - p ≤ m → (shiftUp ltH b p d).size = d.size := by
  intro m
  induction m with
  | zero => intro p d h; rw [shiftUp, if_neg (by omega)]
  | succ m ih =>
    intro p d h
    rw [shiftUp]; split
    · split
      · rfl
      · rw [ih _ _ (by omega), size_swp]
    · rfl
theorem fixDown_size (a i : Nat) (d : Array UInt16) : (fixDown ltH a i d).size = d.size := by
  unfold fixDown; split
  · exact shiftDown_size _ _
  · rfl
theorem fixUp_size (b i : Nat) (d : Array UInt16) : (fixUp ltH b i d).size = d.size := by
  unfold fixUp; split
  · exact shiftUp_size b _ _ _ (Nat.le_refl _)
  · rfl
theorem scanS_ge (d : Array UInt16) (b : Nat) : ∀ m p, b - p ≤ m → p ≤ b → p ≤ scanSorted ltH d b p ∧ scanSorted ltH d b p ≤ b := by
  intro m
  induction m with
  | zero => intro p h h2; rw [scanSorted, if_neg (by simp; omega)]; omega
  | succ m ih =>
    intro p h h2
    rw [scanSorted]; split
    · rename_i hc; simp at hc; have := ih (p + 1) (by omega) (by omega); omega
    · omega
theorem srt_pins {d0 : Array UInt16} {a b : Nat} (hab : a < b) (hb : b ≤ d0.size) (hs : d0.size ≤ 4294967296) : OnRow Try.prog 49 hT [.int .i64 (a : Int), .int .i64 (b : Int)] d0
    (.bool (partialInsertionSort ltH d0 a b).2) (partialInsertionSort ltH d0 a b).1 := by
  intro off i n cap hn
  refine Bs (N := 133) (rs := [.tmp 6]) hG Try.func49 rfl rfl rfl rfl rfl ?_
  repeat' (first
    | ((first | (show AL _ _ _ _ _ _ _ _; refine Ae Y ?_) | (show DL _ _ _ _ _ _ _; refine' Aw Y Y (fun K kk => ?_) ?_; try (show Go.Ts.T; rotate_left))); (first
      | (show AOp _ _ ⟨_, .move _, _, _, _, _⟩ _ _ _; refine Ar hG Y Y ?_)
      | (show AOp _ _ ⟨_, .assign _, _, _, _, _⟩ _ _ _; refine A2 hG Y Y ?_)
      | (show AOp _ _ ⟨_, .binOp .add _ _ _ _, _, _, _, _⟩ _ _ _; first | refine Ad hG Y Y Y Y Y (by omega) ?_ | refine Ad (m := 1) hG Y Y Y Y Y (by omega) ?_ | refine Aa hG Y Y Y Y Y (by omega) ?_)
      | (show AOp _ _ ⟨_, .binOp .sub _ _ _ _, _, _, _, _⟩ _ _ _; first | refine Ah hG Y Y Y Y (by omega) ?_ | refine Ah (m := 1) hG Y Y Y Y (by omega) ?_ | refine Aa hG Y Y Y Y Y (by omega) ?_)
      | (show AOp _ _ ⟨_, .binOp _ _ _ _ _, _, _, _, _⟩ _ _ _; first | refine Ax hG Y Y Y Y Y (by omega) ?_ | refine Ay hG Y Y Y Y Y (by omega) ?_ | ((fail_if_success have := kk); refine Ak hG Y Y Y Y Y (fun h => ?_) (fun h => ?_)))
      | (show AOp _ _ ⟨_, .load _ _, _, _, _, _⟩ _ _ _; first | refine A5 (α := UInt16) 0 hG Y Y Y Y (by omega) Y ?_ | refine A8 hG Y Y Y ?_ | refine Bn 0 hG Y Y Y Y ?_)
      | (show AOp _ _ ⟨_, .indexAddr _ _ _, _, _, _, _⟩ _ _ _; first | refine Bb hG Y Y Y Y Y Y Y (by omega) ?_ | refine A6 hG Y Y Y Y Y Y Y (by omega) ?_ | refine A7 hG Y Y Y Y Y Y Y (by omega) ?_ | refine Bg hG Y Y ?_)
      | (show AOp _ _ ⟨_, .pick _ _ _, _, _, _, _⟩ _ _ _; refine Ba hG Y Y Y ?_)
      | (show AOp _ _ ⟨_, .unOp _ _ _, _, _, _, _⟩ _ _ _; refine Bm hG Y Y Y ?_)
      | (show AOp _ _ ⟨_, .store _ _ _, _, _, _, _⟩ _ _ _; first | refine Bd (α := UInt16) 0 hG Y Y Y Ai Be Y Y (by first | omega | (simp only [Array.size_setIfInBounds]; omega)) ?_ | refine Bu 0 hG Y Y Y Y Y Y Y ?_)
      | refine r_q hG Y Y Y ?_); try exact kk)
    | (show AL _ _ _ _ _ _ _ _; first | refine Bk Y Y Y ?_ | (refine As ?_; first | show AW _ _ _ _ _ _ | show ∃ x', _ < _ ∧ _)) | (show AW _ _ (.seq _ _) _ _ _; refine Ag ?_; intro Q1) | (show AW _ _ (.region _ _ false) _ _ _; refine Ac ?_; intro O1) | (show AW _ _ (.cond _ _ _) _ _ _; first | refine Ao Y ?_ | refine Ap Y ?_ | refine Bo Y (fun h => ?_) (fun h => ?_)) | (show AW _ _ (.skip) _ _ _; refine Aj ?_; first | show AW _ _ _ _ _ _ | show ∃ x', _ < _ ∧ _) | (show AW _ _ (.block _ _) _ _ _; refine Al ?_; intro Q1) | (show AW _ _ (.exit _) _ _ _; refine Av ?_; first | show AW _ _ _ _ _ _ | show ∃ x', _ < _ ∧ _) | (show AW _ _ (.ret) _ _ _; refine Au ?_; try dsimp only [Az, Ab, A4, Af])
    | (show DL _ _ _ _ _ _ _; refine Bq Y Y (fun K kt kf => Ak hG Y Y Y Y Y kt kf) (fun h => ?_) (fun h => ?_))
    | (show DL _ _ _ _ _ _ _; refine Br Y Y Y ?_) | (show DL _ _ _ _ _ _ _; refine A9 ?_; first | show AW _ _ _ _ _ _ | show ∃ x', _ < _ ∧ _) | (show AW _ _ (.region _ _ true) _ _ _; refine Aq mix (by kernel_rfl) ?_; intro O1) | fail)
  obtain ⟨R, hR⟩ : ∃ R, partialIns ltH a b 5 (a + 1) d0 = R := ⟨_, rfl⟩
  have hp : partialInsertionSort ltH d0 a b = R := hR
  refine aw_loop (X := PiX a b n R) (fun x => [(0, .aref 1 i 0 n cap), (1, .int .i64 (a : Int)), (2, .int .i64 (b : Int)), (7, .int .i64 (x.i : Int)), (8, .int .i64 (x.jj : Int))]) (fun x => ⟨[(i, .cells (rowT hT x.d))], [], off, none⟩) (fun x => x.s) ⟨5, a + 1, 0, d0, hn, rfl, by omega, hR⟩ (by repeat (first | exact .nil _ | refine .cons rfl ?_)) (.refl _) ?_
  clear hR
  rintro ⟨s, p, jj, d, hdn, hj, hi, hr⟩
  dsimp only at hr ⊢
  cases s with
  | zero =>
    rw [partialIns] at hr
    subst hr
    obtain rfl : jj = 5 := by omega
    repeat' (first
    | ((first | (show AL _ _ _ _ _ _ _ _; refine Ae Y ?_) | (show DL _ _ _ _ _ _ _; refine' Aw Y Y (fun K kk => ?_) ?_; try (show Go.Ts.T; rotate_left))); (first
      | (show AOp _ _ ⟨_, .move _, _, _, _, _⟩ _ _ _; refine Ar hG Y Y ?_)
      | (show AOp _ _ ⟨_, .assign _, _, _, _, _⟩ _ _ _; refine A2 hG Y Y ?_)
      | (show AOp _ _ ⟨_, .binOp .add _ _ _ _, _, _, _, _⟩ _ _ _; first | refine Ad hG Y Y Y Y Y (by omega) ?_ | refine Ad (m := 1) hG Y Y Y Y Y (by omega) ?_ | refine Aa hG Y Y Y Y Y (by omega) ?_)
      | (show AOp _ _ ⟨_, .binOp .sub _ _ _ _, _, _, _, _⟩ _ _ _; first | refine Ah hG Y Y Y Y (by omega) ?_ | refine Ah (m := 1) hG Y Y Y Y (by omega) ?_ | refine Aa hG Y Y Y Y Y (by omega) ?_)
      | (show AOp _ _ ⟨_, .binOp _ _ _ _ _, _, _, _, _⟩ _ _ _; first | refine Ax hG Y Y Y Y Y (by omega) ?_ | refine Ay hG Y Y Y Y Y (by omega) ?_ | ((fail_if_success have := kk); refine Ak hG Y Y Y Y Y (fun h => ?_) (fun h => ?_)))
      | (show AOp _ _ ⟨_, .load _ _, _, _, _, _⟩ _ _ _; first | refine A5 (α := UInt16) 0 hG Y Y Y Y (by omega) Y ?_ | refine A8 hG Y Y Y ?_ | refine Bn 0 hG Y Y Y Y ?_)
      | (show AOp _ _ ⟨_, .indexAddr _ _ _, _, _, _, _⟩ _ _ _; first | refine Bb hG Y Y Y Y Y Y Y (by omega) ?_ | refine A6 hG Y Y Y Y Y Y Y (by omega) ?_ | refine A7 hG Y Y Y Y Y Y Y (by omega) ?_ | refine Bg hG Y Y ?_)
      | (show AOp _ _ ⟨_, .pick _ _ _, _, _, _, _⟩ _ _ _; refine Ba hG Y Y Y ?_)
      | (show AOp _ _ ⟨_, .unOp _ _ _, _, _, _, _⟩ _ _ _; refine Bm hG Y Y Y ?_)
      | (show AOp _ _ ⟨_, .store _ _ _, _, _, _, _⟩ _ _ _; first | refine Bd (α := UInt16) 0 hG Y Y Y Ai Be Y Y (by first | omega | (simp only [Array.size_setIfInBounds]; omega)) ?_ | refine Bu 0 hG Y Y Y Y Y Y Y ?_)
      | refine r_q hG Y Y Y ?_); try exact kk)
    | (show AL _ _ _ _ _ _ _ _; first | refine Bk Y Y Y ?_ | (refine As ?_; first | show AW _ _ _ _ _ _ | show ∃ x', _ < _ ∧ _)) | (show AW _ _ (.seq _ _) _ _ _; refine Ag ?_; intro Q1) | (show AW _ _ (.region _ _ false) _ _ _; refine Ac ?_; intro O1) | (show AW _ _ (.cond _ _ _) _ _ _; first | refine Ao Y ?_ | refine Ap Y ?_ | refine Bo Y (fun h => ?_) (fun h => ?_)) | (show AW _ _ (.skip) _ _ _; refine Aj ?_; first | show AW _ _ _ _ _ _ | show ∃ x', _ < _ ∧ _) | (show AW _ _ (.block _ _) _ _ _; refine Al ?_; intro Q1) | (show AW _ _ (.exit _) _ _ _; refine Av ?_; first | show AW _ _ _ _ _ _ | show ∃ x', _ < _ ∧ _) | (show AW _ _ (.ret) _ _ _; refine Au ?_; try dsimp only [Az, Ab, A4, Af])
    | (show DL _ _ _ _ _ _ _; refine Bq Y Y (fun K kt kf => Ak hG Y Y Y Y Y kt kf) (fun h => ?_) (fun h => ?_))
    | (show DL _ _ _ _ _ _ _; refine Br Y Y Y ?_) | (show DL _ _ _ _ _ _ _; refine A9 ?_; first | show AW _ _ _ _ _ _ | show ∃ x', _ < _ ∧ _) | (show AW _ _ (.region _ _ true) _ _ _; refine Aq mix (by kernel_rfl) ?_; intro O1) | fail)
    try dsimp (config := { zetaDelta := true }) only [Az, Ab]
    rw [hp]
    refine ret_row 0 (Bi rfl Bj) ?_ (.refl _) ?_ <;> rfl
  | succ s =>
    rw [partialIns_succ] at hr
    obtain ⟨I, hI⟩ : ∃ I, scanSorted ltH d b p = I := ⟨_, rfl⟩
    have gI := scanS_ge d b _ p (Nat.le_refl _) hi.2
    rw [hI] at gI hr
    repeat' (first
    | ((first | (show AL _ _ _ _ _ _ _ _; refine Ae Y ?_) | (show DL _ _ _ _ _ _ _; refine' Aw Y Y (fun K kk => ?_) ?_; try (show Go.Ts.T; rotate_left))); (first
      | (show AOp _ _ ⟨_, .move _, _, _, _, _⟩ _ _ _; refine Ar hG Y Y ?_)
      | (show AOp _ _ ⟨_, .assign _, _, _, _, _⟩ _ _ _; refine A2 hG Y Y ?_)
      | (show AOp _ _ ⟨_, .binOp .add _ _ _ _, _, _, _, _⟩ _ _ _; first | refine Ad hG Y Y Y Y Y (by omega) ?_ | refine Ad (m := 1) hG Y Y Y Y Y (by omega) ?_ | refine Aa hG Y Y Y Y Y (by omega) ?_)
      | (show AOp _ _ ⟨_, .binOp .sub _ _ _ _, _, _, _, _⟩ _ _ _; first | refine Ah hG Y Y Y Y (by omega) ?_ | refine Ah (m := 1) hG Y Y Y Y (by omega) ?_ | refine Aa hG Y Y Y Y Y (by omega) ?_)
      | (show AOp _ _ ⟨_, .binOp _ _ _ _ _, _, _, _, _⟩ _ _ _; first | refine Ax hG Y Y Y Y Y (by omega) ?_ | refine Ay hG Y Y Y Y Y (by omega) ?_ | ((fail_if_success have := kk); refine Ak hG Y Y Y Y Y (fun h => ?_) (fun h => ?_)))
      | (show AOp _ _ ⟨_, .load _ _, _, _, _, _⟩ _ _ _; first | refine A5 (α := UInt16) 0 hG Y Y Y Y (by omega) Y ?_ | refine A8 hG Y Y Y ?_ | refine Bn 0 hG Y Y Y Y ?_)
      | (show AOp _ _ ⟨_, .indexAddr _ _ _, _, _, _, _⟩ _ _ _; first | refine Bb hG Y Y Y Y Y Y Y (by omega) ?_ | refine A6 hG Y Y Y Y Y Y Y (by omega) ?_ | refine A7 hG Y Y Y Y Y Y Y (by omega) ?_ | refine Bg hG Y Y ?_)
      | (show AOp _ _ ⟨_, .pick _ _ _, _, _, _, _⟩ _ _ _; refine Ba hG Y Y Y ?_)
      | (show AOp _ _ ⟨_, .unOp _ _ _, _, _, _, _⟩ _ _ _; refine Bm hG Y Y Y ?_)
      | (show AOp _ _ ⟨_, .store _ _ _, _, _, _, _⟩ _ _ _; first | refine Bd (α := UInt16) 0 hG Y Y Y Ai Be Y Y (by first | omega | (simp only [Array.size_setIfInBounds]; omega)) ?_ | refine Bu 0 hG Y Y Y Y Y Y Y ?_)
      | refine r_q hG Y Y Y ?_); try exact kk)
    | (show AL _ _ _ _ _ _ _ _; first | refine Bk Y Y Y ?_ | (refine As ?_; first | show AW _ _ _ _ _ _ | show ∃ x', _ < _ ∧ _)) | (show AW _ _ (.seq _ _) _ _ _; refine Ag ?_; intro Q1) | (show AW _ _ (.region _ _ false) _ _ _; refine Ac ?_; intro O1) | (show AW _ _ (.cond _ _ _) _ _ _; first | refine Ao Y ?_ | refine Ap Y ?_ | refine Bo Y (fun h => ?_) (fun h => ?_)) | (show AW _ _ (.skip) _ _ _; refine Aj ?_; first | show AW _ _ _ _ _ _ | show ∃ x', _ < _ ∧ _) | (show AW _ _ (.block _ _) _ _ _; refine Al ?_; intro Q1) | (show AW _ _ (.exit _) _ _ _; refine Av ?_; first | show AW _ _ _ _ _ _ | show ∃ x', _ < _ ∧ _) | (show AW _ _ (.ret) _ _ _; refine Au ?_; try dsimp only [Az, Ab, A4, Af])
    | (show DL _ _ _ _ _ _ _; refine Bq Y Y (fun K kt kf => Ak hG Y Y Y Y Y kt kf) (fun h => ?_) (fun h => ?_))
    | (show DL _ _ _ _ _ _ _; refine Br Y Y Y ?_) | (show DL _ _ _ _ _ _ _; refine A9 ?_; first | show AW _ _ _ _ _ _ | show ∃ x', _ < _ ∧ _) | (show AW _ _ (.region _ _ true) _ _ _; refine Aq mix (by kernel_rfl) ?_; intro O1) | fail)
    refine aw_loop_to 2 (X := SsX d a b I) (fun x => [(0, .aref 1 i 0 n cap), (1, .int .i64 (a : Int)), (2, .int .i64 (b : Int)), (7, .int .i64 (x.p : Int)), (8, .int .i64 (jj : Int))]) (fun _ => ⟨[(i, .cells (rowT hT d))], [], off, none⟩) (fun x => b - x.p) ⟨p, by omega, hI⟩ (by repeat (first | exact .nil _ | refine .cons rfl ?_)) (.refl _) [(0, .aref 1 i 0 n cap), (1, .int .i64 (a : Int)), (2, .int .i64 (b : Int)), (7, .int .i64 (I : Int)), (8, .int .i64 (jj : Int))] (⟨[(i, .cells (rowT hT d))], [], off, none⟩) ?_ ?_
    · rintro ⟨q, hq, hrq⟩
      dsimp only at hrq ⊢
      by_cases hqb : q < b
      · repeat' (first
    | ((first | (show AL _ _ _ _ _ _ _ _; refine Ae Y ?_) | (show DL _ _ _ _ _ _ _; refine' Aw Y Y (fun K kk => ?_) ?_; try (show Go.Ts.T; rotate_left))); (first
      | (show AOp _ _ ⟨_, .move _, _, _, _, _⟩ _ _ _; refine Ar hG Y Y ?_)
      | (show AOp _ _ ⟨_, .assign _, _, _, _, _⟩ _ _ _; refine A2 hG Y Y ?_)
      | (show AOp _ _ ⟨_, .binOp .add _ _ _ _, _, _, _, _⟩ _ _ _; first | refine Ad hG Y Y Y Y Y (by omega) ?_ | refine Ad (m := 1) hG Y Y Y Y Y (by omega) ?_ | refine Aa hG Y Y Y Y Y (by omega) ?_)
      | (show AOp _ _ ⟨_, .binOp .sub _ _ _ _, _, _, _, _⟩ _ _ _; first | refine Ah hG Y Y Y Y (by omega) ?_ | refine Ah (m := 1) hG Y Y Y Y (by omega) ?_ | refine Aa hG Y Y Y Y Y (by omega) ?_)
      | (show AOp _ _ ⟨_, .binOp _ _ _ _ _, _, _, _, _⟩ _ _ _; first | refine Ax hG Y Y Y Y Y (by omega) ?_ | refine Ay hG Y Y Y Y Y (by omega) ?_ | ((fail_if_success have := kk); refine Ak hG Y Y Y Y Y (fun h => ?_) (fun h => ?_)))
      | (show AOp _ _ ⟨_, .load _ _, _, _, _, _⟩ _ _ _; first | refine A5 (α := UInt16) 0 hG Y Y Y Y (by omega) Y ?_ | refine A8 hG Y Y Y ?_ | refine Bn 0 hG Y Y Y Y ?_)
      | (show AOp _ _ ⟨_, .indexAddr _ _ _, _, _, _, _⟩ _ _ _; first | refine Bb hG Y Y Y Y Y Y Y (by omega) ?_ | refine A6 hG Y Y Y Y Y Y Y (by omega) ?_ | refine A7 hG Y Y Y Y Y Y Y (by omega) ?_ | refine Bg hG Y Y ?_)
      | (show AOp _ _ ⟨_, .pick _ _ _, _, _, _, _⟩ _ _ _; refine Ba hG Y Y Y ?_)
      | (show AOp _ _ ⟨_, .unOp _ _ _, _, _, _, _⟩ _ _ _; refine Bm hG Y Y Y ?_)
      | (show AOp _ _ ⟨_, .store _ _ _, _, _, _, _⟩ _ _ _; first | refine Bd (α := UInt16) 0 hG Y Y Y Ai Be Y Y (by first | omega | (simp only [Array.size_setIfInBounds]; omega)) ?_ | refine Bu 0 hG Y Y Y Y Y Y Y ?_)
      | (show AOp _ _ ⟨_, .call ⟨.value _, _, _⟩, _, _, _, _⟩ _ _ _; first | refine Bp Y Y Y Y Y (by apply Ce <;> (first | assumption | omega | exact Am _ _ | exact A0 _ | exact A1 _ _ | exact Bc _ | rfl | (simp; omega))) ?_ | fail)
      | refine r_q hG Y Y Y ?_); try exact kk)
    | (show AL _ _ _ _ _ _ _ _; first | refine Bk Y Y Y ?_ | (refine As ?_; first | show AW _ _ _ _ _ _ | show ∃ x', _ < _ ∧ _)) | (show AW _ _ (.seq _ _) _ _ _; refine Ag ?_; intro Q1) | (show AW _ _ (.region _ _ false) _ _ _; refine Ac ?_; intro O1) | (show AW _ _ (.cond _ _ _) _ _ _; first | refine Ao Y ?_ | refine Ap Y ?_ | refine Bo Y (fun h => ?_) (fun h => ?_)) | (show AW _ _ (.skip) _ _ _; refine Aj ?_; first | show AW _ _ _ _ _ _ | show ∃ x', _ < _ ∧ _) | (show AW _ _ (.block _ _) _ _ _; refine Al ?_; intro Q1) | (show AW _ _ (.exit _) _ _ _; refine Av ?_; first | show AW _ _ _ _ _ _ | show ∃ x', _ < _ ∧ _) | (show AW _ _ (.ret) _ _ _; refine Au ?_; try dsimp only [Az, Ab, A4, Af])
    | (show DL _ _ _ _ _ _ _; refine Bq Y Y (fun K kt kf => Ak hG Y Y Y Y Y kt kf) (fun h => ?_) (fun h => ?_))
    | (show DL _ _ _ _ _ _ _; refine Br Y Y Y ?_) | (show DL _ _ _ _ _ _ _; refine A9 ?_; first | show AW _ _ _ _ _ _ | show ∃ x', _ < _ ∧ _) | (show AW _ _ (.region _ _ true) _ _ _; refine Aq mix (by kernel_rfl) ?_; intro O1) | fail)
        · rw [scanSorted, if_pos (by simp [hqb]; simpa using h)] at hrq
          exact ⟨⟨q + 1, by omega, hrq⟩, by dsimp only; omega, (by repeat (first | exact .nil _ | refine .cons rfl ?_)), .refl _⟩
        · rw [scanSorted, if_neg (by simp [hqb]; simpa using h)] at hrq
          subst hrq
          (refine Av ?_; show _ ∧ Knows _ _ ∧ _; exact ⟨rfl, (by repeat (first | exact .nil _ | refine .cons rfl ?_)), rfl⟩)
      · rw [scanSorted, if_neg (by simp [hqb])] at hrq
        subst hrq
        repeat' (first
    | ((first | (show AL _ _ _ _ _ _ _ _; refine Ae Y ?_) | (show DL _ _ _ _ _ _ _; refine' Aw Y Y (fun K kk => ?_) ?_; try (show Go.Ts.T; rotate_left))); (first
      | (show AOp _ _ ⟨_, .move _, _, _, _, _⟩ _ _ _; refine Ar hG Y Y ?_)
      | (show AOp _ _ ⟨_, .assign _, _, _, _, _⟩ _ _ _; refine A2 hG Y Y ?_)
      | (show AOp _ _ ⟨_, .binOp .add _ _ _ _, _, _, _, _⟩ _ _ _; first | refine Ad hG Y Y Y Y Y (by omega) ?_ | refine Ad (m := 1) hG Y Y Y Y Y (by omega) ?_ | refine Aa hG Y Y Y Y Y (by omega) ?_)
      | (show AOp _ _ ⟨_, .binOp .sub _ _ _ _, _, _, _, _⟩ _ _ _; first | refine Ah hG Y Y Y Y (by omega) ?_ | refine Ah (m := 1) hG Y Y Y Y (by omega) ?_ | refine Aa hG Y Y Y Y Y (by omega) ?_)
      | (show AOp _ _ ⟨_, .binOp _ _ _ _ _, _, _, _, _⟩ _ _ _; first | refine Ax hG Y Y Y Y Y (by omega) ?_ | refine Ay hG Y Y Y Y Y (by omega) ?_ | ((fail_if_success have := kk); refine Ak hG Y Y Y Y Y (fun h => ?_) (fun h => ?_)))
      | (show AOp _ _ ⟨_, .load _ _, _, _, _, _⟩ _ _ _; first | refine A5 (α := UInt16) 0 hG Y Y Y Y (by omega) Y ?_ | refine A8 hG Y Y Y ?_ | refine Bn 0 hG Y Y Y Y ?_)
      | (show AOp _ _ ⟨_, .indexAddr _ _ _, _, _, _, _⟩ _ _ _; first | refine Bb hG Y Y Y Y Y Y Y (by omega) ?_ | refine A6 hG Y Y Y Y Y Y Y (by omega) ?_ | refine A7 hG Y Y Y Y Y Y Y (by omega) ?_ | refine Bg hG Y Y ?_)
      | (show AOp _ _ ⟨_, .pick _ _ _, _, _, _, _⟩ _ _ _; refine Ba hG Y Y Y ?_)
      | (show AOp _ _ ⟨_, .unOp _ _ _, _, _, _, _⟩ _ _ _; refine Bm hG Y Y Y ?_)
      | (show AOp _ _ ⟨_, .store _ _ _, _, _, _, _⟩ _ _ _; first | refine Bd (α := UInt16) 0 hG Y Y Y Ai Be Y Y (by first | omega | (simp only [Array.size_setIfInBounds]; omega)) ?_ | refine Bu 0 hG Y Y Y Y Y Y Y ?_)
      | (show AOp _ _ ⟨_, .call ⟨.value _, _, _⟩, _, _, _, _⟩ _ _ _; first | refine Bp Y Y Y Y Y (by apply Ce <;> (first | assumption | omega | exact Am _ _ | exact A0 _ | exact A1 _ _ | exact Bc _ | rfl | (simp; omega))) ?_ | fail)
      | refine r_q hG Y Y Y ?_); try exact kk)
    | (show AL _ _ _ _ _ _ _ _; first | refine Bk Y Y Y ?_ | (refine As ?_; first | show AW _ _ _ _ _ _ | show ∃ x', _ < _ ∧ _)) | (show AW _ _ (.seq _ _) _ _ _; refine Ag ?_; intro Q1) | (show AW _ _ (.region _ _ false) _ _ _; refine Ac ?_; intro O1) | (show AW _ _ (.cond _ _ _) _ _ _; first | refine Ao Y ?_ | refine Ap Y ?_ | refine Bo Y (fun h => ?_) (fun h => ?_)) | (show AW _ _ (.skip) _ _ _; refine Aj ?_; first | show AW _ _ _ _ _ _ | show ∃ x', _ < _ ∧ _) | (show AW _ _ (.block _ _) _ _ _; refine Al ?_; intro Q1) | (show AW _ _ (.exit _) _ _ _; refine Av ?_; first | show AW _ _ _ _ _ _ | show ∃ x', _ < _ ∧ _) | (show AW _ _ (.ret) _ _ _; refine Au ?_; try dsimp only [Az, Ab, A4, Af])
    | (show DL _ _ _ _ _ _ _; refine Bq Y Y (fun K kt kf => Ak hG Y Y Y Y Y kt kf) (fun h => ?_) (fun h => ?_))
    | (show DL _ _ _ _ _ _ _; refine Br Y Y Y ?_) | (show DL _ _ _ _ _ _ _; refine A9 ?_; first | show AW _ _ _ _ _ _ | show ∃ x', _ < _ ∧ _) | (show AW _ _ (.region _ _ true) _ _ _; refine Aq mix (by kernel_rfl) ?_; intro O1) | fail)
        (refine Av ?_; show _ ∧ Knows _ _ ∧ _; exact ⟨rfl, (by repeat (first | exact .nil _ | refine .cons rfl ?_)), rfl⟩)
    intro a' hk
    show AW _ _ _ _ _ _
    refine aw_forget hk ?_
    by_cases h1 : I = b
    · rw [if_pos h1] at hr
      subst hr
      repeat' (first
    | ((first | (show AL _ _ _ _ _ _ _ _; refine Ae Y ?_) | (show DL _ _ _ _ _ _ _; refine' Aw Y Y (fun K kk => ?_) ?_; try (show Go.Ts.T; rotate_left))); (first
      | (show AOp _ _ ⟨_, .move _, _, _, _, _⟩ _ _ _; refine Ar hG Y Y ?_)
      | (show AOp _ _ ⟨_, .assign _, _, _, _, _⟩ _ _ _; refine A2 hG Y Y ?_)
      | (show AOp _ _ ⟨_, .binOp .add _ _ _ _, _, _, _, _⟩ _ _ _; first | refine Ad hG Y Y Y Y Y (by omega) ?_ | refine Ad (m := 1) hG Y Y Y Y Y (by omega) ?_ | refine Aa hG Y Y Y Y Y (by omega) ?_)
      | (show AOp _ _ ⟨_, .binOp .sub _ _ _ _, _, _, _, _⟩ _ _ _; first | refine Ah hG Y Y Y Y (by omega) ?_ | refine Ah (m := 1) hG Y Y Y Y (by omega) ?_ | refine Aa hG Y Y Y Y Y (by omega) ?_)
      | (show AOp _ _ ⟨_, .binOp _ _ _ _ _, _, _, _, _⟩ _ _ _; first | refine Ax hG Y Y Y Y Y (by omega) ?_ | refine Ay hG Y Y Y Y Y (by omega) ?_ | ((fail_if_success have := kk); refine Ak hG Y Y Y Y Y (fun h => ?_) (fun h => ?_)))
      | (show AOp _ _ ⟨_, .load _ _, _, _, _, _⟩ _ _ _; first | refine A5 (α := UInt16) 0 hG Y Y Y Y (by omega) Y ?_ | refine A8 hG Y Y Y ?_ | refine Bn 0 hG Y Y Y Y ?_)
      | (show AOp _ _ ⟨_, .indexAddr _ _ _, _, _, _, _⟩ _ _ _; first | refine Bb hG Y Y Y Y Y Y Y (by omega) ?_ | refine A6 hG Y Y Y Y Y Y Y (by omega) ?_ | refine A7 hG Y Y Y Y Y Y Y (by omega) ?_ | refine Bg hG Y Y ?_)
      | (show AOp _ _ ⟨_, .pick _ _ _, _, _, _, _⟩ _ _ _; refine Ba hG Y Y Y ?_)
      | (show AOp _ _ ⟨_, .unOp _ _ _, _, _, _, _⟩ _ _ _; refine Bm hG Y Y Y ?_)
      | (show AOp _ _ ⟨_, .store _ _ _, _, _, _, _⟩ _ _ _; first | refine Bd (α := UInt16) 0 hG Y Y Y Ai Be Y Y (by first | omega | (simp only [Array.size_setIfInBounds]; omega)) ?_ | refine Bu 0 hG Y Y Y Y Y Y Y ?_)
      | refine r_q hG Y Y Y ?_); try exact kk)
    | (show AL _ _ _ _ _ _ _ _; first | refine Bk Y Y Y ?_ | (refine As ?_; first | show AW _ _ _ _ _ _ | show ∃ x', _ < _ ∧ _)) | (show AW _ _ (.seq _ _) _ _ _; refine Ag ?_; intro Q1) | (show AW _ _ (.region _ _ false) _ _ _; refine Ac ?_; intro O1) | (show AW _ _ (.cond _ _ _) _ _ _; first | refine Ao Y ?_ | refine Ap Y ?_ | refine Bo Y (fun h => ?_) (fun h => ?_)) | (show AW _ _ (.skip) _ _ _; refine Aj ?_; first | show AW _ _ _ _ _ _ | show ∃ x', _ < _ ∧ _) | (show AW _ _ (.block _ _) _ _ _; refine Al ?_; intro Q1) | (show AW _ _ (.exit _) _ _ _; refine Av ?_; first | show AW _ _ _ _ _ _ | show ∃ x', _ < _ ∧ _) | (show AW _ _ (.ret) _ _ _; refine Au ?_; try dsimp only [Az, Ab, A4, Af])
    | (show DL _ _ _ _ _ _ _; refine Bq Y Y (fun K kt kf => Ak hG Y Y Y Y Y kt kf) (fun h => ?_) (fun h => ?_))
    | (show DL _ _ _ _ _ _ _; refine Br Y Y Y ?_) | (show DL _ _ _ _ _ _ _; refine A9 ?_; first | show AW _ _ _ _ _ _ | show ∃ x', _ < _ ∧ _) | (show AW _ _ (.region _ _ true) _ _ _; refine Aq mix (by kernel_rfl) ?_; intro O1) | fail)
      try dsimp (config := { zetaDelta := true }) only [Az, Ab]
      rw [hp]
      refine ret_row 0 (Bi rfl Bj) ?_ (.refl _) ?_ <;> rfl
    · rw [if_neg h1] at hr
      by_cases h2 : b - a < 50
      · rw [if_pos h2] at hr
        subst hr
        repeat' (first
    | ((first | (show AL _ _ _ _ _ _ _ _; refine Ae Y ?_) | (show DL _ _ _ _ _ _ _; refine' Aw Y Y (fun K kk => ?_) ?_; try (show Go.Ts.T; rotate_left))); (first
      | (show AOp _ _ ⟨_, .move _, _, _, _, _⟩ _ _ _; refine Ar hG Y Y ?_)
      | (show AOp _ _ ⟨_, .assign _, _, _, _, _⟩ _ _ _; refine A2 hG Y Y ?_)
      | (show AOp _ _ ⟨_, .binOp .add _ _ _ _, _, _, _, _⟩ _ _ _; first | refine Ad hG Y Y Y Y Y (by omega) ?_ | refine Ad (m := 1) hG Y Y Y Y Y (by omega) ?_ | refine Aa hG Y Y Y Y Y (by omega) ?_)
      | (show AOp _ _ ⟨_, .binOp .sub _ _ _ _, _, _, _, _⟩ _ _ _; first | refine Ah hG Y Y Y Y (by omega) ?_ | refine Ah (m := 1) hG Y Y Y Y (by omega) ?_ | refine Aa hG Y Y Y Y Y (by omega) ?_)
      | (show AOp _ _ ⟨_, .binOp _ _ _ _ _, _, _, _, _⟩ _ _ _; first | refine Ax hG Y Y Y Y Y (by omega) ?_ | refine Ay hG Y Y Y Y Y (by omega) ?_ | ((fail_if_success have := kk); refine Ak hG Y Y Y Y Y (fun h => ?_) (fun h => ?_)))
      | (show AOp _ _ ⟨_, .load _ _, _, _, _, _⟩ _ _ _; first | refine A5 (α := UInt16) 0 hG Y Y Y Y (by omega) Y ?_ | refine A8 hG Y Y Y ?_ | refine Bn 0 hG Y Y Y Y ?_)
      | (show AOp _ _ ⟨_, .indexAddr _ _ _, _, _, _, _⟩ _ _ _; first | refine Bb hG Y Y Y Y Y Y Y (by omega) ?_ | refine A6 hG Y Y Y Y Y Y Y (by omega) ?_ | refine A7 hG Y Y Y Y Y Y Y (by omega) ?_ | refine Bg hG Y Y ?_)
      | (show AOp _ _ ⟨_, .pick _ _ _, _, _, _, _⟩ _ _ _; refine Ba hG Y Y Y ?_)
      | (show AOp _ _ ⟨_, .unOp _ _ _, _, _, _, _⟩ _ _ _; refine Bm hG Y Y Y ?_)
      | (show AOp _ _ ⟨_, .store _ _ _, _, _, _, _⟩ _ _ _; first | refine Bd (α := UInt16) 0 hG Y Y Y Ai Be Y Y (by first | omega | (simp only [Array.size_setIfInBounds]; omega)) ?_ | refine Bu 0 hG Y Y Y Y Y Y Y ?_)
      | refine r_q hG Y Y Y ?_); try exact kk)
    | (show AL _ _ _ _ _ _ _ _; first | refine Bk Y Y Y ?_ | (refine As ?_; first | show AW _ _ _ _ _ _ | show ∃ x', _ < _ ∧ _)) | (show AW _ _ (.seq _ _) _ _ _; refine Ag ?_; intro Q1) | (show AW _ _ (.region _ _ false) _ _ _; refine Ac ?_; intro O1) | (show AW _ _ (.cond _ _ _) _ _ _; first | refine Ao Y ?_ | refine Ap Y ?_ | refine Bo Y (fun h => ?_) (fun h => ?_)) | (show AW _ _ (.skip) _ _ _; refine Aj ?_; first | show AW _ _ _ _ _ _ | show ∃ x', _ < _ ∧ _) | (show AW _ _ (.block _ _) _ _ _; refine Al ?_; intro Q1) | (show AW _ _ (.exit _) _ _ _; refine Av ?_; first | show AW _ _ _ _ _ _ | show ∃ x', _ < _ ∧ _) | (show AW _ _ (.ret) _ _ _; refine Au ?_; try dsimp only [Az, Ab, A4, Af])
    | (show DL _ _ _ _ _ _ _; refine Bq Y Y (fun K kt kf => Ak hG Y Y Y Y Y kt kf) (fun h => ?_) (fun h => ?_))
    | (show DL _ _ _ _ _ _ _; refine Br Y Y Y ?_) | (show DL _ _ _ _ _ _ _; refine A9 ?_; first | show AW _ _ _ _ _ _ | show ∃ x', _ < _ ∧ _) | (show AW _ _ (.region _ _ true) _ _ _; refine Aq mix (by kernel_rfl) ?_; intro O1) | fail)
        try dsimp (config := { zetaDelta := true }) only [Az, Ab]
        rw [hp]
        refine ret_row 0 (Bi rfl Bj) ?_ (.refl _) ?_ <;> rfl
      · rw [if_neg h2] at hr
        repeat' (first
    | ((first | (show AL _ _ _ _ _ _ _ _; refine Ae Y ?_) | (show DL _ _ _ _ _ _ _; refine' Aw Y Y (fun K kk => ?_) ?_; try (show Go.Ts.T; rotate_left))); (first
      | (show AOp _ _ ⟨_, .move _, _, _, _, _⟩ _ _ _; refine Ar hG Y Y ?_)
      | (show AOp _ _ ⟨_, .assign _, _, _, _, _⟩ _ _ _; refine A2 hG Y Y ?_)
      | (show AOp _ _ ⟨_, .binOp .add _ _ _ _, _, _, _, _⟩ _ _ _; first | refine Ad hG Y Y Y Y Y (by omega) ?_ | refine Ad (m := 1) hG Y Y Y Y Y (by omega) ?_ | refine Aa hG Y Y Y Y Y (by omega) ?_)
      | (show AOp _ _ ⟨_, .binOp .sub _ _ _ _, _, _, _, _⟩ _ _ _; first | refine Ah hG Y Y Y Y (by omega) ?_ | refine Ah (m := 1) hG Y Y Y Y (by omega) ?_ | refine Aa hG Y Y Y Y Y (by omega) ?_)
      | (show AOp _ _ ⟨_, .binOp _ _ _ _ _, _, _, _, _⟩ _ _ _; first | refine Ax hG Y Y Y Y Y (by omega) ?_ | refine Ay hG Y Y Y Y Y (by omega) ?_ | ((fail_if_success have := kk); refine Ak hG Y Y Y Y Y (fun h => ?_) (fun h => ?_)))
      | (show AOp _ _ ⟨_, .load _ _, _, _, _, _⟩ _ _ _; first | refine A5 (α := UInt16) 0 hG Y Y Y Y (by omega) Y ?_ | refine A8 hG Y Y Y ?_ | refine Bn 0 hG Y Y Y Y ?_)
      | (show AOp _ _ ⟨_, .indexAddr _ _ _, _, _, _, _⟩ _ _ _; first | refine Bb hG Y Y Y Y Y Y Y (by omega) ?_ | refine A6 hG Y Y Y Y Y Y Y (by omega) ?_ | refine A7 hG Y Y Y Y Y Y Y (by omega) ?_ | refine Bg hG Y Y ?_)
      | (show AOp _ _ ⟨_, .pick _ _ _, _, _, _, _⟩ _ _ _; refine Ba hG Y Y Y ?_)
      | (show AOp _ _ ⟨_, .unOp _ _ _, _, _, _, _⟩ _ _ _; refine Bm hG Y Y Y ?_)
      | (show AOp _ _ ⟨_, .store _ _ _, _, _, _, _⟩ _ _ _; first | refine Bd (α := UInt16) 0 hG Y Y Y Ai Be Y Y (by first | omega | (simp only [Array.size_setIfInBounds]; omega)) ?_ | refine Bu 0 hG Y Y Y Y Y Y Y ?_)
      | refine r_q hG Y Y Y ?_); try exact kk)
    | (show AL _ _ _ _ _ _ _ _; first | refine Bk Y Y Y ?_ | (refine As ?_; first | show AW _ _ _ _ _ _ | show ∃ x', _ < _ ∧ _)) | (show AW _ _ (.seq _ _) _ _ _; refine Ag ?_; intro Q1) | (show AW _ _ (.region _ _ false) _ _ _; (fail_if_success show AW _ _ (.region 11 _ _) _ _ _); refine Ac ?_; intro O1) | (show AW _ _ (.cond _ _ _) _ _ _; first | refine Ao Y ?_ | refine Ap Y ?_ | refine Bo Y (fun h => ?_) (fun h => ?_)) | (show AW _ _ (.skip) _ _ _; refine Aj ?_; first | show AW _ _ _ _ _ _ | show ∃ x', _ < _ ∧ _) | (show AW _ _ (.block _ _) _ _ _; refine Al ?_; intro Q1) | (show AW _ _ (.exit _) _ _ _; refine Av ?_; first | show AW _ _ _ _ _ _ | show ∃ x', _ < _ ∧ _) | (show AW _ _ (.ret) _ _ _; refine Au ?_; try dsimp only [Az, Ab, A4, Af])
    | (show DL _ _ _ _ _ _ _; refine Bq Y Y (fun K kt kf => Ak hG Y Y Y Y Y kt kf) (fun h => ?_) (fun h => ?_))
    | (show DL _ _ _ _ _ _ _; refine Br Y Y Y ?_) | (show DL _ _ _ _ _ _ _; refine A9 ?_; first | show AW _ _ _ _ _ _ | show ∃ x', _ < _ ∧ _) | (show AW _ _ (.region _ _ true) _ _ _; (fail_if_success show AW _ _ (.region 11 _ _) _ _ _); refine Aq mix (by kernel_rfl) ?_; intro O1) | fail)
        refine Cc (m := 16) [15] [9, 13] (fun σ => ∃ c : Array UInt16, c.size = n ∧ σ = ⟨[(i, .cells (rowT hT c))], [], off, none⟩) mix Y Y (by repeat (first | exact Sp.zero _ | apply Sp.succ)) ?_; intro O1 F1 Z1 Q2; repeat' (first
    | (refine' dq0_cons Y Y Y Y (fun σ hσ K kk => ?_) ?_; (try (show Go.Ts.T; rotate_left)); (obtain ⟨c, hcn, hcs⟩ := hσ; subst hcs); (first
      | (show AOp _ _ ⟨_, .move _, _, _, _, _⟩ _ _ _; refine Ar hG Y Y ?_)
      | (show AOp _ _ ⟨_, .assign _, _, _, _, _⟩ _ _ _; refine A2 hG Y Y ?_)
      | (show AOp _ _ ⟨_, .binOp .add _ _ _ _, _, _, _, _⟩ _ _ _; first | refine Ad hG Y Y Y Y Y (by omega) ?_ | refine Ad (m := 1) hG Y Y Y Y Y (by omega) ?_ | refine Aa hG Y Y Y Y Y (by omega) ?_)
      | (show AOp _ _ ⟨_, .binOp .sub _ _ _ _, _, _, _, _⟩ _ _ _; first | refine Ah hG Y Y Y Y (by omega) ?_ | refine Ah (m := 1) hG Y Y Y Y (by omega) ?_ | refine Aa hG Y Y Y Y Y (by omega) ?_)
      | (show AOp _ _ ⟨_, .binOp _ _ _ _ _, _, _, _, _⟩ _ _ _; first | refine Ax hG Y Y Y Y Y (by omega) ?_ | refine Ay hG Y Y Y Y Y (by omega) ?_)
      | (show AOp _ _ ⟨_, .load _ _, _, _, _, _⟩ _ _ _; first | refine A5 (α := UInt16) 0 hG Y Y Y Y (by omega) Y ?_ | refine A5 (α := UInt16) 1 hG Y Y Y Y (by omega) Y ?_ | refine A8 hG Y Y Y ?_ | refine Bn 0 hG Y Y Y Y ?_)
      | (show AOp _ _ ⟨_, .indexAddr _ _ _, _, _, _, _⟩ _ _ _; first | refine Bb hG Y Y Y Y Y Y Y (by omega) ?_ | refine A6 hG Y Y Y Y Y Y Y (by omega) ?_ | refine A7 hG Y Y Y Y Y Y Y (by omega) ?_ | refine Bg hG Y Y ?_)
      | (show AOp _ _ ⟨_, .pick _ _ _, _, _, _, _⟩ _ _ _; refine Ba hG Y Y Y ?_)
      | (show AOp _ _ ⟨_, .unOp _ _ _, _, _, _, _⟩ _ _ _; refine Bm hG Y Y Y ?_)
      | (show AOp _ _ ⟨_, .store _ _ _, _, _, _, _⟩ _ _ _; first | refine Bd (α := UInt16) 0 hG Y Y Y Ai Be Y Y (by first | omega | (simp only [Array.size_setIfInBounds]; omega)) ?_ | refine Bu 0 hG Y Y Y Y Y Y Y ?_)
      | refine r_q hG Y Y Y ?_); exact kk)
    | (refine' Cd Y Y Y Y (fun K kk => ?_) ?_; (try (show Go.Ts.T; rotate_left)); (first | refine A5 0 hG Y Y Y Y (by omega) Y ?_ | refine A5 1 hG Y Y Y Y (by omega) Y ?_); exact kk)
    | refine dq0_e Y ?_ | (refine dq0_nil ?_; show EL _ _ _ _ _ _ _ _ _)
    | (refine el_consN ⟨_, (by first | assumption | (simp only [Array.size_setIfInBounds]; omega)), Y⟩ Y Y Y (fun K ke => ?_); (first | refine Bd (α := UInt16) 0 hG Y Y Y Ai Be Y Y (by first | omega | (simp only [Array.size_setIfInBounds]; omega)) ?_ | refine Bd (α := UInt16) 1 hG Y Y Y Ai Be Y Y (by first | omega | (simp only [Array.size_setIfInBounds]; omega)) ?_); refine ke (.tup []) _ ?_)
    | (refine el_nil ⟨_, (by first | assumption | (simp only [Array.size_setIfInBounds]; omega)), Y⟩ ?_; show AL _ _ _ _ _ _ _ _) | fail)
        repeat' (first
    | ((first | (show AL _ _ _ _ _ _ _ _; refine Ae Y ?_) | (show DL _ _ _ _ _ _ _; refine' Aw Y Y (fun K kk => ?_) ?_; try (show Go.Ts.T; rotate_left))); (first
      | (show AOp _ _ ⟨_, .move _, _, _, _, _⟩ _ _ _; refine Ar hG Y Y ?_)
      | (show AOp _ _ ⟨_, .assign _, _, _, _, _⟩ _ _ _; refine A2 hG Y Y ?_)
      | (show AOp _ _ ⟨_, .binOp .add _ _ _ _, _, _, _, _⟩ _ _ _; first | refine Ad hG Y Y Y Y Y (by omega) ?_ | refine Ad (m := 1) hG Y Y Y Y Y (by omega) ?_ | refine Aa hG Y Y Y Y Y (by omega) ?_)
      | (show AOp _ _ ⟨_, .binOp .sub _ _ _ _, _, _, _, _⟩ _ _ _; first | refine Ah hG Y Y Y Y (by omega) ?_ | refine Ah (m := 1) hG Y Y Y Y (by omega) ?_ | refine Aa hG Y Y Y Y Y (by omega) ?_)
      | (show AOp _ _ ⟨_, .binOp _ _ _ _ _, _, _, _, _⟩ _ _ _; first | refine Ax hG Y Y Y Y Y (by omega) ?_ | refine Ay hG Y Y Y Y Y (by omega) ?_ | ((fail_if_success have := kk); refine Ak hG Y Y Y Y Y (fun h => ?_) (fun h => ?_)))
      | (show AOp _ _ ⟨_, .load _ _, _, _, _, _⟩ _ _ _; first | refine A5 (α := UInt16) 0 hG Y Y Y Y (by omega) Y ?_ | refine A8 hG Y Y Y ?_ | refine Bn 0 hG Y Y Y Y ?_)
      | (show AOp _ _ ⟨_, .indexAddr _ _ _, _, _, _, _⟩ _ _ _; first | refine Bb hG Y Y Y Y Y Y Y (by omega) ?_ | refine A6 hG Y Y Y Y Y Y Y (by omega) ?_ | refine A7 hG Y Y Y Y Y Y Y (by omega) ?_ | refine Bg hG Y Y ?_)
      | (show AOp _ _ ⟨_, .pick _ _ _, _, _, _, _⟩ _ _ _; refine Ba hG Y Y Y ?_)
      | (show AOp _ _ ⟨_, .unOp _ _ _, _, _, _, _⟩ _ _ _; refine Bm hG Y Y Y ?_)
      | (show AOp _ _ ⟨_, .store _ _ _, _, _, _, _⟩ _ _ _; first | refine Bd (α := UInt16) 0 hG Y Y Y Ai Be Y Y (by first | omega | (simp only [Array.size_setIfInBounds]; omega)) ?_ | refine Bu 0 hG Y Y Y Y Y Y Y ?_)
      | refine r_q hG Y Y Y ?_); try exact kk)
    | (show AL _ _ _ _ _ _ _ _; first | refine Bk Y Y Y ?_ | (refine As ?_; first | show AW _ _ _ _ _ _ | show ∃ x', _ < _ ∧ _)) | (show AW _ _ (.seq _ _) _ _ _; refine Ag ?_; intro Q1) | (show AW _ _ (.region _ _ false) _ _ _; (fail_if_success show AW _ _ (.region 12 _ _) _ _ _); refine Ac ?_; intro O1) | (show AW _ _ (.cond _ _ _) _ _ _; first | refine Ao Y ?_ | refine Ap Y ?_ | refine Bo Y (fun h => ?_) (fun h => ?_)) | (show AW _ _ (.skip) _ _ _; refine Aj ?_; first | show AW _ _ _ _ _ _ | show ∃ x', _ < _ ∧ _) | (show AW _ _ (.block _ _) _ _ _; refine Al ?_; intro Q1) | (show AW _ _ (.exit _) _ _ _; refine Av ?_; first | show AW _ _ _ _ _ _ | show ∃ x', _ < _ ∧ _) | (show AW _ _ (.ret) _ _ _; refine Au ?_; try dsimp only [Az, Ab, A4, Af])
    | (show DL _ _ _ _ _ _ _; refine Bq Y Y (fun K kt kf => Ak hG Y Y Y Y Y kt kf) (fun h => ?_) (fun h => ?_))
    | (show DL _ _ _ _ _ _ _; refine Br Y Y Y ?_) | (show DL _ _ _ _ _ _ _; refine A9 ?_; first | show AW _ _ _ _ _ _ | show ∃ x', _ < _ ∧ _) | (show AW _ _ (.region _ _ true) _ _ _; (fail_if_success show AW _ _ (.region 12 _ _) _ _ _); refine Aq mix (by kernel_rfl) ?_; intro O1) | fail)
        have hsn : (swp d I (I - 1)).size = n := by rw [size_swp]; exact hdn
        refine aw_to2 [(0, .aref 1 i 0 n cap), (1, .int .i64 (a : Int)), (2, .int .i64 (b : Int)), (7, .int .i64 (I : Int)), (8, .int .i64 (jj : Int))] (⟨[(i, .cells (rowT hT (fixDown ltH a I (swp d I (I - 1)))))], [], off, none⟩) ?_ ?_
        · by_cases h3 : I - a ≥ 2
          · obtain ⟨D, hD⟩ : ∃ D, shiftDown ltH (I - 1) (swp d I (I - 1)) = D := ⟨_, rfl⟩
            have hf : fixDown ltH a I (swp d I (I - 1)) = D := by unfold fixDown; rw [if_pos h3]; exact hD
            rw [hf]
            repeat' (first
    | ((first | (show AL _ _ _ _ _ _ _ _; refine Ae Y ?_) | (show DL _ _ _ _ _ _ _; refine' Aw Y Y (fun K kk => ?_) ?_; try (show Go.Ts.T; rotate_left))); (first
      | (show AOp _ _ ⟨_, .move _, _, _, _, _⟩ _ _ _; refine Ar hG Y Y ?_)
      | (show AOp _ _ ⟨_, .assign _, _, _, _, _⟩ _ _ _; refine A2 hG Y Y ?_)
      | (show AOp _ _ ⟨_, .binOp .add _ _ _ _, _, _, _, _⟩ _ _ _; first | refine Ad hG Y Y Y Y Y (by omega) ?_ | refine Ad (m := 1) hG Y Y Y Y Y (by omega) ?_ | refine Aa hG Y Y Y Y Y (by omega) ?_)
      | (show AOp _ _ ⟨_, .binOp .sub _ _ _ _, _, _, _, _⟩ _ _ _; first | refine Ah hG Y Y Y Y (by omega) ?_ | refine Ah (m := 1) hG Y Y Y Y (by omega) ?_ | refine Aa hG Y Y Y Y Y (by omega) ?_)
      | (show AOp _ _ ⟨_, .binOp _ _ _ _ _, _, _, _, _⟩ _ _ _; first | refine Ax hG Y Y Y Y Y (by omega) ?_ | refine Ay hG Y Y Y Y Y (by omega) ?_ | ((fail_if_success have := kk); refine Ak hG Y Y Y Y Y (fun h => ?_) (fun h => ?_)))
      | (show AOp _ _ ⟨_, .load _ _, _, _, _, _⟩ _ _ _; first | refine A5 (α := UInt16) 0 hG Y Y Y Y (by omega) Y ?_ | refine A8 hG Y Y Y ?_ | refine Bn 0 hG Y Y Y Y ?_)
      | (show AOp _ _ ⟨_, .indexAddr _ _ _, _, _, _, _⟩ _ _ _; first | refine Bb hG Y Y Y Y Y Y Y (by omega) ?_ | refine A6 hG Y Y Y Y Y Y Y (by omega) ?_ | refine A7 hG Y Y Y Y Y Y Y (by omega) ?_ | refine Bg hG Y Y ?_)
      | (show AOp _ _ ⟨_, .pick _ _ _, _, _, _, _⟩ _ _ _; refine Ba hG Y Y Y ?_)
      | (show AOp _ _ ⟨_, .unOp _ _ _, _, _, _, _⟩ _ _ _; refine Bm hG Y Y Y ?_)
      | (show AOp _ _ ⟨_, .store _ _ _, _, _, _, _⟩ _ _ _; first | refine Bd (α := UInt16) 0 hG Y Y Y Ai Be Y Y (by first | omega | (simp only [Array.size_setIfInBounds]; omega)) ?_ | refine Bu 0 hG Y Y Y Y Y Y Y ?_)
      | refine r_q hG Y Y Y ?_); try exact kk)
    | (show AL _ _ _ _ _ _ _ _; first | refine Bk Y Y Y ?_ | (refine As ?_; first | show AW _ _ _ _ _ _ | show ∃ x', _ < _ ∧ _)) | (show AW _ _ (.seq _ _) _ _ _; refine Ag ?_; intro Q1) | (show AW _ _ (.region _ _ false) _ _ _; refine Ac ?_; intro O1) | (show AW _ _ (.cond _ _ _) _ _ _; first | refine Ao Y ?_ | refine Ap Y ?_ | refine Bo Y (fun h => ?_) (fun h => ?_)) | (show AW _ _ (.skip) _ _ _; refine Aj ?_; first | show AW _ _ _ _ _ _ | show ∃ x', _ < _ ∧ _) | (show AW _ _ (.block _ _) _ _ _; refine Al ?_; intro Q1) | (show AW _ _ (.exit _) _ _ _; refine Av ?_; first | show AW _ _ _ _ _ _ | show ∃ x', _ < _ ∧ _) | (show AW _ _ (.ret) _ _ _; refine Au ?_; try dsimp only [Az, Ab, A4, Af])
    | (show DL _ _ _ _ _ _ _; refine Bq Y Y (fun K kt kf => Ak hG Y Y Y Y Y kt kf) (fun h => ?_) (fun h => ?_))
    | (show DL _ _ _ _ _ _ _; refine Br Y Y Y ?_) | (show DL _ _ _ _ _ _ _; refine A9 ?_; first | show AW _ _ _ _ _ _ | show ∃ x', _ < _ ∧ _) | (show AW _ _ (.region _ _ true) _ _ _; refine Aq mix (by kernel_rfl) ?_; intro O1) | fail)
            refine aw_loop_to 4 (X := SdX D n (I - 1)) (fun x => [(0, .aref 1 i 0 n cap), (1, .int .i64 (a : Int)), (2, .int .i64 (b : Int)), (7, .int .i64 (I : Int)), (8, .int .i64 (jj : Int)), (9, .int .i64 (x.p : Int))]) (fun x => ⟨[(i, .cells (rowT hT x.d))], [], off, none⟩) (fun x => x.p) ⟨I - 1, swp d I (I - 1), hsn, Nat.le_refl _, hD⟩ (by repeat (first | exact .nil _ | refine .cons rfl ?_)) (.refl _) [(0, .aref 1 i 0 n cap), (1, .int .i64 (a : Int)), (2, .int .i64 (b : Int)), (7, .int .i64 (I : Int)), (8, .int .i64 (jj : Int))] (⟨[(i, .cells (rowT hT D))], [], off, none⟩) ?_ ?_
            · rintro ⟨q, e, hen, hq, hrq⟩
              dsimp only at hrq ⊢
              cases q with
              | zero =>
                rw [shiftDown] at hrq
                subst hrq
                repeat' (first
    | ((first | (show AL _ _ _ _ _ _ _ _; refine Ae Y ?_) | (show DL _ _ _ _ _ _ _; refine' Aw Y Y (fun K kk => ?_) ?_; try (show Go.Ts.T; rotate_left))); (first
      | (show AOp _ _ ⟨_, .move _, _, _, _, _⟩ _ _ _; refine Ar hG Y Y ?_)
      | (show AOp _ _ ⟨_, .assign _, _, _, _, _⟩ _ _ _; refine A2 hG Y Y ?_)
      | (show AOp _ _ ⟨_, .binOp .add _ _ _ _, _, _, _, _⟩ _ _ _; first | refine Ad hG Y Y Y Y Y (by omega) ?_ | refine Ad (m := 1) hG Y Y Y Y Y (by omega) ?_ | refine Aa hG Y Y Y Y Y (by omega) ?_)
      | (show AOp _ _ ⟨_, .binOp .sub _ _ _ _, _, _, _, _⟩ _ _ _; first | refine Ah hG Y Y Y Y (by omega) ?_ | refine Ah (m := 1) hG Y Y Y Y (by omega) ?_ | refine Aa hG Y Y Y Y Y (by omega) ?_)
      | (show AOp _ _ ⟨_, .binOp _ _ _ _ _, _, _, _, _⟩ _ _ _; first | refine Ax hG Y Y Y Y Y (by omega) ?_ | refine Ay hG Y Y Y Y Y (by omega) ?_ | ((fail_if_success have := kk); refine Ak hG Y Y Y Y Y (fun h => ?_) (fun h => ?_)))
      | (show AOp _ _ ⟨_, .load _ _, _, _, _, _⟩ _ _ _; first | refine A5 (α := UInt16) 0 hG Y Y Y Y (by omega) Y ?_ | refine A8 hG Y Y Y ?_ | refine Bn 0 hG Y Y Y Y ?_)
      | (show AOp _ _ ⟨_, .indexAddr _ _ _, _, _, _, _⟩ _ _ _; first | refine Bb hG Y Y Y Y Y Y Y (by omega) ?_ | refine A6 hG Y Y Y Y Y Y Y (by omega) ?_ | refine A7 hG Y Y Y Y Y Y Y (by omega) ?_ | refine Bg hG Y Y ?_)
      | (show AOp _ _ ⟨_, .pick _ _ _, _, _, _, _⟩ _ _ _; refine Ba hG Y Y Y ?_)
      | (show AOp _ _ ⟨_, .unOp _ _ _, _, _, _, _⟩ _ _ _; refine Bm hG Y Y Y ?_)
      | (show AOp _ _ ⟨_, .store _ _ _, _, _, _, _⟩ _ _ _; first | refine Bd (α := UInt16) 0 hG Y Y Y Ai Be Y Y (by first | omega | (simp only [Array.size_setIfInBounds]; omega)) ?_ | refine Bu 0 hG Y Y Y Y Y Y Y ?_)
      | (show AOp _ _ ⟨_, .call ⟨.value _, _, _⟩, _, _, _, _⟩ _ _ _; first | refine Bp Y Y Y Y Y (by apply Ce <;> (first | assumption | omega | exact Am _ _ | exact A0 _ | exact A1 _ _ | exact Bc _ | rfl | (simp; omega))) ?_ | fail)
      | refine r_q hG Y Y Y ?_); try exact kk)
    | (show AL _ _ _ _ _ _ _ _; first | refine Bk Y Y Y ?_ | (refine As ?_; first | show AW _ _ _ _ _ _ | show ∃ x', _ < _ ∧ _)) | (show AW _ _ (.seq _ _) _ _ _; refine Ag ?_; intro Q1) | (show AW _ _ (.region _ _ false) _ _ _; refine Ac ?_; intro O1) | (show AW _ _ (.cond _ _ _) _ _ _; first | refine Ao Y ?_ | refine Ap Y ?_ | refine Bo Y (fun h => ?_) (fun h => ?_)) | (show AW _ _ (.skip) _ _ _; refine Aj ?_; first | show AW _ _ _ _ _ _ | show ∃ x', _ < _ ∧ _) | (show AW _ _ (.block _ _) _ _ _; refine Al ?_; intro Q1) | (show AW _ _ (.exit _) _ _ _; refine Av ?_; first | show AW _ _ _ _ _ _ | show ∃ x', _ < _ ∧ _) | (show AW _ _ (.ret) _ _ _; refine Au ?_; try dsimp only [Az, Ab, A4, Af])
    | (show DL _ _ _ _ _ _ _; refine Bq Y Y (fun K kt kf => Ak hG Y Y Y Y Y kt kf) (fun h => ?_) (fun h => ?_))
    | (show DL _ _ _ _ _ _ _; refine Br Y Y Y ?_) | (show DL _ _ _ _ _ _ _; refine A9 ?_; first | show AW _ _ _ _ _ _ | show ∃ x', _ < _ ∧ _) | (show AW _ _ (.region _ _ true) _ _ _; refine Aq mix (by kernel_rfl) ?_; intro O1) | fail)
                (refine Av ?_; show _ ∧ Knows _ _ ∧ _; exact ⟨rfl, (by repeat (first | exact .nil _ | refine .cons rfl ?_)), rfl⟩)
              | succ m =>
                rw [shiftDown] at hrq
                repeat' (first
    | ((first | (show AL _ _ _ _ _ _ _ _; refine Ae Y ?_) | (show DL _ _ _ _ _ _ _; refine' Aw Y Y (fun K kk => ?_) ?_; try (show Go.Ts.T; rotate_left))); (first
      | (show AOp _ _ ⟨_, .move _, _, _, _, _⟩ _ _ _; refine Ar hG Y Y ?_)
      | (show AOp _ _ ⟨_, .assign _, _, _, _, _⟩ _ _ _; refine A2 hG Y Y ?_)
      | (show AOp _ _ ⟨_, .binOp .add _ _ _ _, _, _, _, _⟩ _ _ _; first | refine Ad hG Y Y Y Y Y (by omega) ?_ | refine Ad (m := 1) hG Y Y Y Y Y (by omega) ?_ | refine Aa hG Y Y Y Y Y (by omega) ?_)
      | (show AOp _ _ ⟨_, .binOp .sub _ _ _ _, _, _, _, _⟩ _ _ _; first | refine Ah hG Y Y Y Y (by omega) ?_ | refine Ah (m := 1) hG Y Y Y Y (by omega) ?_ | refine Aa hG Y Y Y Y Y (by omega) ?_)
      | (show AOp _ _ ⟨_, .binOp _ _ _ _ _, _, _, _, _⟩ _ _ _; first | refine Ax hG Y Y Y Y Y (by omega) ?_ | refine Ay hG Y Y Y Y Y (by omega) ?_ | ((fail_if_success have := kk); refine Ak hG Y Y Y Y Y (fun h => ?_) (fun h => ?_)))
      | (show AOp _ _ ⟨_, .load _ _, _, _, _, _⟩ _ _ _; first | refine A5 (α := UInt16) 0 hG Y Y Y Y (by omega) Y ?_ | refine A8 hG Y Y Y ?_ | refine Bn 0 hG Y Y Y Y ?_)
      | (show AOp _ _ ⟨_, .indexAddr _ _ _, _, _, _, _⟩ _ _ _; first | refine Bb hG Y Y Y Y Y Y Y (by omega) ?_ | refine A6 hG Y Y Y Y Y Y Y (by omega) ?_ | refine A7 hG Y Y Y Y Y Y Y (by omega) ?_ | refine Bg hG Y Y ?_)
      | (show AOp _ _ ⟨_, .pick _ _ _, _, _, _, _⟩ _ _ _; refine Ba hG Y Y Y ?_)
      | (show AOp _ _ ⟨_, .unOp _ _ _, _, _, _, _⟩ _ _ _; refine Bm hG Y Y Y ?_)
      | (show AOp _ _ ⟨_, .store _ _ _, _, _, _, _⟩ _ _ _; first | refine Bd (α := UInt16) 0 hG Y Y Y Ai Be Y Y (by first | omega | (simp only [Array.size_setIfInBounds]; omega)) ?_ | refine Bu 0 hG Y Y Y Y Y Y Y ?_)
      | (show AOp _ _ ⟨_, .call ⟨.value _, _, _⟩, _, _, _, _⟩ _ _ _; first | refine Bp Y Y Y Y Y (by apply Ce <;> (first | assumption | omega | exact Am _ _ | exact A0 _ | exact A1 _ _ | exact Bc _ | rfl | (simp; omega))) ?_ | fail)
      | refine r_q hG Y Y Y ?_); try exact kk)
    | (show AL _ _ _ _ _ _ _ _; first | refine Bk Y Y Y ?_ | (refine As ?_; first | show AW _ _ _ _ _ _ | show ∃ x', _ < _ ∧ _)) | (show AW _ _ (.seq _ _) _ _ _; refine Ag ?_; intro Q1) | (show AW _ _ (.region _ _ false) _ _ _; (fail_if_success show AW _ _ (.region 17 _ _) _ _ _); refine Ac ?_; intro O1) | (show AW _ _ (.cond _ _ _) _ _ _; first | refine Ao Y ?_ | refine Ap Y ?_ | refine Bo Y (fun h => ?_) (fun h => ?_)) | (show AW _ _ (.skip) _ _ _; refine Aj ?_; first | show AW _ _ _ _ _ _ | show ∃ x', _ < _ ∧ _) | (show AW _ _ (.block _ _) _ _ _; refine Al ?_; intro Q1) | (show AW _ _ (.exit _) _ _ _; refine Av ?_; first | show AW _ _ _ _ _ _ | show ∃ x', _ < _ ∧ _) | (show AW _ _ (.ret) _ _ _; refine Au ?_; try dsimp only [Az, Ab, A4, Af])
    | (show DL _ _ _ _ _ _ _; refine Bq Y Y (fun K kt kf => Ak hG Y Y Y Y Y kt kf) (fun h => ?_) (fun h => ?_))
    | (show DL _ _ _ _ _ _ _; refine Br Y Y Y ?_) | (show DL _ _ _ _ _ _ _; refine A9 ?_; first | show AW _ _ _ _ _ _ | show ∃ x', _ < _ ∧ _) | (show AW _ _ (.region _ _ true) _ _ _; (fail_if_success show AW _ _ (.region 17 _ _) _ _ _); refine Aq mix (by kernel_rfl) ?_; intro O1) | fail)
                · rw [if_pos (show (!ltH e[m + 1]! e[m]!) = true from h)] at hrq
                  subst hrq
                  (refine Av ?_; show _ ∧ Knows _ _ ∧ _; exact ⟨rfl, (by repeat (first | exact .nil _ | refine .cons rfl ?_)), rfl⟩)
                · rw [if_neg (by rw [show (!ltH e[m + 1]! e[m]!) = false from h]; simp)] at hrq
                  refine Cc (m := 16) [15] [9, 13] (fun σ => ∃ c : Array UInt16, c.size = n ∧ σ = ⟨[(i, .cells (rowT hT c))], [], off, none⟩) mix Y Y (by repeat (first | exact Sp.zero _ | apply Sp.succ)) ?_; intro O1 F1 Z1 Q2; repeat' (first
    | (refine' dq0_cons Y Y Y Y (fun σ hσ K kk => ?_) ?_; (try (show Go.Ts.T; rotate_left)); (obtain ⟨c, hcn, hcs⟩ := hσ; subst hcs); (first
      | (show AOp _ _ ⟨_, .move _, _, _, _, _⟩ _ _ _; refine Ar hG Y Y ?_)
      | (show AOp _ _ ⟨_, .assign _, _, _, _, _⟩ _ _ _; refine A2 hG Y Y ?_)
      | (show AOp _ _ ⟨_, .binOp .add _ _ _ _, _, _, _, _⟩ _ _ _; first | refine Ad hG Y Y Y Y Y (by omega) ?_ | refine Ad (m := 1) hG Y Y Y Y Y (by omega) ?_ | refine Aa hG Y Y Y Y Y (by omega) ?_)
      | (show AOp _ _ ⟨_, .binOp .sub _ _ _ _, _, _, _, _⟩ _ _ _; first | refine Ah hG Y Y Y Y (by omega) ?_ | refine Ah (m := 1) hG Y Y Y Y (by omega) ?_ | refine Aa hG Y Y Y Y Y (by omega) ?_)
      | (show AOp _ _ ⟨_, .binOp _ _ _ _ _, _, _, _, _⟩ _ _ _; first | refine Ax hG Y Y Y Y Y (by omega) ?_ | refine Ay hG Y Y Y Y Y (by omega) ?_)
      | (show AOp _ _ ⟨_, .load _ _, _, _, _, _⟩ _ _ _; first | refine A5 (α := UInt16) 0 hG Y Y Y Y (by omega) Y ?_ | refine A5 (α := UInt16) 1 hG Y Y Y Y (by omega) Y ?_ | refine A8 hG Y Y Y ?_ | refine Bn 0 hG Y Y Y Y ?_)
      | (show AOp _ _ ⟨_, .indexAddr _ _ _, _, _, _, _⟩ _ _ _; first | refine Bb hG Y Y Y Y Y Y Y (by omega) ?_ | refine A6 hG Y Y Y Y Y Y Y (by omega) ?_ | refine A7 hG Y Y Y Y Y Y Y (by omega) ?_ | refine Bg hG Y Y ?_)
      | (show AOp _ _ ⟨_, .pick _ _ _, _, _, _, _⟩ _ _ _; refine Ba hG Y Y Y ?_)
      | (show AOp _ _ ⟨_, .unOp _ _ _, _, _, _, _⟩ _ _ _; refine Bm hG Y Y Y ?_)
      | (show AOp _ _ ⟨_, .store _ _ _, _, _, _, _⟩ _ _ _; first | refine Bd (α := UInt16) 0 hG Y Y Y Ai Be Y Y (by first | omega | (simp only [Array.size_setIfInBounds]; omega)) ?_ | refine Bu 0 hG Y Y Y Y Y Y Y ?_)
      | refine r_q hG Y Y Y ?_); exact kk)
    | (refine' Cd Y Y Y Y (fun K kk => ?_) ?_; (try (show Go.Ts.T; rotate_left)); (first | refine A5 0 hG Y Y Y Y (by omega) Y ?_ | refine A5 1 hG Y Y Y Y (by omega) Y ?_); exact kk)
    | refine dq0_e Y ?_ | (refine dq0_nil ?_; show EL _ _ _ _ _ _ _ _ _)
    | (refine el_consN ⟨_, (by first | assumption | (simp only [Array.size_setIfInBounds]; omega)), Y⟩ Y Y Y (fun K ke => ?_); (first | refine Bd (α := UInt16) 0 hG Y Y Y Ai Be Y Y (by first | omega | (simp only [Array.size_setIfInBounds]; omega)) ?_ | refine Bd (α := UInt16) 1 hG Y Y Y Ai Be Y Y (by first | omega | (simp only [Array.size_setIfInBounds]; omega)) ?_); refine ke (.tup []) _ ?_)
    | (refine el_nil ⟨_, (by first | assumption | (simp only [Array.size_setIfInBounds]; omega)), Y⟩ ?_; show AL _ _ _ _ _ _ _ _) | fail)
                  repeat' (first
    | ((first | (show AL _ _ _ _ _ _ _ _; refine Ae Y ?_) | (show DL _ _ _ _ _ _ _; refine' Aw Y Y (fun K kk => ?_) ?_; try (show Go.Ts.T; rotate_left))); (first
      | (show AOp _ _ ⟨_, .move _, _, _, _, _⟩ _ _ _; refine Ar hG Y Y ?_)
      | (show AOp _ _ ⟨_, .assign _, _, _, _, _⟩ _ _ _; refine A2 hG Y Y ?_)
      | (show AOp _ _ ⟨_, .binOp .add _ _ _ _, _, _, _, _⟩ _ _ _; first | refine Ad hG Y Y Y Y Y (by omega) ?_ | refine Ad (m := 1) hG Y Y Y Y Y (by omega) ?_ | refine Aa hG Y Y Y Y Y (by omega) ?_)
      | (show AOp _ _ ⟨_, .binOp .sub _ _ _ _, _, _, _, _⟩ _ _ _; first | refine Ah hG Y Y Y Y (by omega) ?_ | refine Ah (m := 1) hG Y Y Y Y (by omega) ?_ | refine Aa hG Y Y Y Y Y (by omega) ?_)
      | (show AOp _ _ ⟨_, .binOp _ _ _ _ _, _, _, _, _⟩ _ _ _; first | refine Ax hG Y Y Y Y Y (by omega) ?_ | refine Ay hG Y Y Y Y Y (by omega) ?_ | ((fail_if_success have := kk); refine Ak hG Y Y Y Y Y (fun h => ?_) (fun h => ?_)))
      | (show AOp _ _ ⟨_, .load _ _, _, _, _, _⟩ _ _ _; first | refine A5 (α := UInt16) 0 hG Y Y Y Y (by omega) Y ?_ | refine A8 hG Y Y Y ?_ | refine Bn 0 hG Y Y Y Y ?_)
      | (show AOp _ _ ⟨_, .indexAddr _ _ _, _, _, _, _⟩ _ _ _; first | refine Bb hG Y Y Y Y Y Y Y (by omega) ?_ | refine A6 hG Y Y Y Y Y Y Y (by omega) ?_ | refine A7 hG Y Y Y Y Y Y Y (by omega) ?_ | refine Bg hG Y Y ?_)
      | (show AOp _ _ ⟨_, .pick _ _ _, _, _, _, _⟩ _ _ _; refine Ba hG Y Y Y ?_)
      | (show AOp _ _ ⟨_, .unOp _ _ _, _, _, _, _⟩ _ _ _; refine Bm hG Y Y Y ?_)
      | (show AOp _ _ ⟨_, .store _ _ _, _, _, _, _⟩ _ _ _; first | refine Bd (α := UInt16) 0 hG Y Y Y Ai Be Y Y (by first | omega | (simp only [Array.size_setIfInBounds]; omega)) ?_ | refine Bu 0 hG Y Y Y Y Y Y Y ?_)
      | refine r_q hG Y Y Y ?_); try exact kk)
    | (show AL _ _ _ _ _ _ _ _; first | refine Bk Y Y Y ?_ | (refine As ?_; first | show AW _ _ _ _ _ _ | show ∃ x', _ < _ ∧ _)) | (show AW _ _ (.seq _ _) _ _ _; refine Ag ?_; intro Q1) | (show AW _ _ (.region _ _ false) _ _ _; refine Ac ?_; intro O1) | (show AW _ _ (.cond _ _ _) _ _ _; first | refine Ao Y ?_ | refine Ap Y ?_ | refine Bo Y (fun h => ?_) (fun h => ?_)) | (show AW _ _ (.skip) _ _ _; refine Aj ?_; first | show AW _ _ _ _ _ _ | show ∃ x', _ < _ ∧ _) | (show AW _ _ (.block _ _) _ _ _; refine Al ?_; intro Q1) | (show AW _ _ (.exit _) _ _ _; refine Av ?_; first | show AW _ _ _ _ _ _ | show ∃ x', _ < _ ∧ _) | (show AW _ _ (.ret) _ _ _; refine Au ?_; try dsimp only [Az, Ab, A4, Af])
    | (show DL _ _ _ _ _ _ _; refine Bq Y Y (fun K kt kf => Ak hG Y Y Y Y Y kt kf) (fun h => ?_) (fun h => ?_))
    | (show DL _ _ _ _ _ _ _; refine Br Y Y Y ?_) | (show DL _ _ _ _ _ _ _; refine A9 ?_; first | show AW _ _ _ _ _ _ | show ∃ x', _ < _ ∧ _) | (show AW _ _ (.region _ _ true) _ _ _; refine Aq mix (by kernel_rfl) ?_; intro O1) | fail)
                  exact ⟨⟨m, swp e (m + 1) m, by rw [size_swp]; exact hen, by omega, hrq⟩, by dsimp only; omega, (by repeat (first | exact .nil _ | refine .cons rfl ?_)), .refl _⟩
            · intro a' hk
              exact ⟨rfl, hk, rfl⟩
          · have hf : fixDown ltH a I (swp d I (I - 1)) = swp d I (I - 1) := by unfold fixDown; rw [if_neg h3]
            rw [hf]
            repeat' (first
    | ((first | (show AL _ _ _ _ _ _ _ _; refine Ae Y ?_) | (show DL _ _ _ _ _ _ _; refine' Aw Y Y (fun K kk => ?_) ?_; try (show Go.Ts.T; rotate_left))); (first
      | (show AOp _ _ ⟨_, .move _, _, _, _, _⟩ _ _ _; refine Ar hG Y Y ?_)
      | (show AOp _ _ ⟨_, .assign _, _, _, _, _⟩ _ _ _; refine A2 hG Y Y ?_)
      | (show AOp _ _ ⟨_, .binOp .add _ _ _ _, _, _, _, _⟩ _ _ _; first | refine Ad hG Y Y Y Y Y (by omega) ?_ | refine Ad (m := 1) hG Y Y Y Y Y (by omega) ?_ | refine Aa hG Y Y Y Y Y (by omega) ?_)
      | (show AOp _ _ ⟨_, .binOp .sub _ _ _ _, _, _, _, _⟩ _ _ _; first | refine Ah hG Y Y Y Y (by omega) ?_ | refine Ah (m := 1) hG Y Y Y Y (by omega) ?_ | refine Aa hG Y Y Y Y Y (by omega) ?_)
      | (show AOp _ _ ⟨_, .binOp _ _ _ _ _, _, _, _, _⟩ _ _ _; first | refine Ax hG Y Y Y Y Y (by omega) ?_ | refine Ay hG Y Y Y Y Y (by omega) ?_ | ((fail_if_success have := kk); refine Ak hG Y Y Y Y Y (fun h => ?_) (fun h => ?_)))
      | (show AOp _ _ ⟨_, .load _ _, _, _, _, _⟩ _ _ _; first | refine A5 (α := UInt16) 0 hG Y Y Y Y (by omega) Y ?_ | refine A8 hG Y Y Y ?_ | refine Bn 0 hG Y Y Y Y ?_)
      | (show AOp _ _ ⟨_, .indexAddr _ _ _, _, _, _, _⟩ _ _ _; first | refine Bb hG Y Y Y Y Y Y Y (by omega) ?_ | refine A6 hG Y Y Y Y Y Y Y (by omega) ?_ | refine A7 hG Y Y Y Y Y Y Y (by omega) ?_ | refine Bg hG Y Y ?_)
      | (show AOp _ _ ⟨_, .pick _ _ _, _, _, _, _⟩ _ _ _; refine Ba hG Y Y Y ?_)
      | (show AOp _ _ ⟨_, .unOp _ _ _, _, _, _, _⟩ _ _ _; refine Bm hG Y Y Y ?_)
      | (show AOp _ _ ⟨_, .store _ _ _, _, _, _, _⟩ _ _ _; first | refine Bd (α := UInt16) 0 hG Y Y Y Ai Be Y Y (by first | omega | (simp only [Array.size_setIfInBounds]; omega)) ?_ | refine Bu 0 hG Y Y Y Y Y Y Y ?_)
      | refine r_q hG Y Y Y ?_); try exact kk)
    | (show AL _ _ _ _ _ _ _ _; first | refine Bk Y Y Y ?_ | (refine As ?_; first | show AW _ _ _ _ _ _ | show ∃ x', _ < _ ∧ _)) | (show AW _ _ (.seq _ _) _ _ _; refine Ag ?_; intro Q1) | (show AW _ _ (.region _ _ false) _ _ _; refine Ac ?_; intro O1) | (show AW _ _ (.cond _ _ _) _ _ _; first | refine Ao Y ?_ | refine Ap Y ?_ | refine Bo Y (fun h => ?_) (fun h => ?_)) | (show AW _ _ (.skip) _ _ _; refine Aj ?_; first | show AW _ _ _ _ _ _ | show ∃ x', _ < _ ∧ _) | (show AW _ _ (.block _ _) _ _ _; refine Al ?_; intro Q1) | (show AW _ _ (.exit _) _ _ _; refine Av ?_; first | show AW _ _ _ _ _ _ | show ∃ x', _ < _ ∧ _) | (show AW _ _ (.ret) _ _ _; refine Au ?_; try dsimp only [Az, Ab, A4, Af])
    | (show DL _ _ _ _ _ _ _; refine Bq Y Y (fun K kt kf => Ak hG Y Y Y Y Y kt kf) (fun h => ?_) (fun h => ?_))
    | (show DL _ _ _ _ _ _ _; refine Br Y Y Y ?_) | (show DL _ _ _ _ _ _ _; refine A9 ?_; first | show AW _ _ _ _ _ _ | show ∃ x', _ < _ ∧ _) | (show AW _ _ (.region _ _ true) _ _ _; refine Aq mix (by kernel_rfl) ?_; intro O1) | fail)
            refine Aj ?_
            exact ⟨rfl, (by repeat (first | exact .nil _ | refine .cons rfl ?_)), rfl⟩
        intro a' hk
        show AW _ _ _ _ _ _
        refine aw_forget hk ?_
        have hfn : (fixDown ltH a I (swp d I (I - 1))).size = n := by rw [fixDown_size]; exact hsn
        obtain ⟨g, hg⟩ : ∃ g, fixDown ltH a I (swp d I (I - 1)) = g := ⟨_, rfl⟩
        rw [hg] at hr hfn ⊢
        repeat' (first
    | ((first | (show AL _ _ _ _ _ _ _ _; refine Ae Y ?_) | (show DL _ _ _ _ _ _ _; refine' Aw Y Y (fun K kk => ?_) ?_; try (show Go.Ts.T; rotate_left))); (first
      | (show AOp _ _ ⟨_, .move _, _, _, _, _⟩ _ _ _; refine Ar hG Y Y ?_)
      | (show AOp _ _ ⟨_, .assign _, _, _, _, _⟩ _ _ _; refine A2 hG Y Y ?_)
      | (show AOp _ _ ⟨_, .binOp .add _ _ _ _, _, _, _, _⟩ _ _ _; first | refine Ad hG Y Y Y Y Y (by omega) ?_ | refine Ad (m := 1) hG Y Y Y Y Y (by omega) ?_ | refine Aa hG Y Y Y Y Y (by omega) ?_)
      | (show AOp _ _ ⟨_, .binOp .sub _ _ _ _, _, _, _, _⟩ _ _ _; first | refine Ah hG Y Y Y Y (by omega) ?_ | refine Ah (m := 1) hG Y Y Y Y (by omega) ?_ | refine Aa hG Y Y Y Y Y (by omega) ?_)
      | (show AOp _ _ ⟨_, .binOp _ _ _ _ _, _, _, _, _⟩ _ _ _; first | refine Ax hG Y Y Y Y Y (by omega) ?_ | refine Ay hG Y Y Y Y Y (by omega) ?_ | ((fail_if_success have := kk); refine Ak hG Y Y Y Y Y (fun h => ?_) (fun h => ?_)))
      | (show AOp _ _ ⟨_, .load _ _, _, _, _, _⟩ _ _ _; first | refine A5 (α := UInt16) 0 hG Y Y Y Y (by omega) Y ?_ | refine A8 hG Y Y Y ?_ | refine Bn 0 hG Y Y Y Y ?_)
      | (show AOp _ _ ⟨_, .indexAddr _ _ _, _, _, _, _⟩ _ _ _; first | refine Bb hG Y Y Y Y Y Y Y (by omega) ?_ | refine A6 hG Y Y Y Y Y Y Y (by omega) ?_ | refine A7 hG Y Y Y Y Y Y Y (by omega) ?_ | refine Bg hG Y Y ?_)
      | (show AOp _ _ ⟨_, .pick _ _ _, _, _, _, _⟩ _ _ _; refine Ba hG Y Y Y ?_)
      | (show AOp _ _ ⟨_, .unOp _ _ _, _, _, _, _⟩ _ _ _; refine Bm hG Y Y Y ?_)
      | (show AOp _ _ ⟨_, .store _ _ _, _, _, _, _⟩ _ _ _; first | refine Bd (α := UInt16) 0 hG Y Y Y Ai Be Y Y (by first | omega | (simp only [Array.size_setIfInBounds]; omega)) ?_ | refine Bu 0 hG Y Y Y Y Y Y Y ?_)
      | refine r_q hG Y Y Y ?_); try exact kk)
    | (show AL _ _ _ _ _ _ _ _; first | refine Bk Y Y Y ?_ | (refine As ?_; first | show AW _ _ _ _ _ _ | show ∃ x', _ < _ ∧ _)) | (show AW _ _ (.seq _ _) _ _ _; refine Ag ?_; intro Q1) | (show AW _ _ (.region _ _ false) _ _ _; (fail_if_success show AW _ _ (.region 18 _ _) _ _ _); refine Ac ?_; intro O1) | (show AW _ _ (.cond _ _ _) _ _ _; first | refine Ao Y ?_ | refine Ap Y ?_ | refine Bo Y (fun h => ?_) (fun h => ?_)) | (show AW _ _ (.skip) _ _ _; refine Aj ?_; first | show AW _ _ _ _ _ _ | show ∃ x', _ < _ ∧ _) | (show AW _ _ (.block _ _) _ _ _; refine Al ?_; intro Q1) | (show AW _ _ (.exit _) _ _ _; refine Av ?_; first | show AW _ _ _ _ _ _ | show ∃ x', _ < _ ∧ _) | (show AW _ _ (.ret) _ _ _; refine Au ?_; try dsimp only [Az, Ab, A4, Af])
    | (show DL _ _ _ _ _ _ _; refine Bq Y Y (fun K kt kf => Ak hG Y Y Y Y Y kt kf) (fun h => ?_) (fun h => ?_))
    | (show DL _ _ _ _ _ _ _; refine Br Y Y Y ?_) | (show DL _ _ _ _ _ _ _; refine A9 ?_; first | show AW _ _ _ _ _ _ | show ∃ x', _ < _ ∧ _) | (show AW _ _ (.region _ _ true) _ _ _; (fail_if_success show AW _ _ (.region 18 _ _) _ _ _); refine Aq mix (by kernel_rfl) ?_; intro O1) | fail)
        refine aw_to2 [(0, .aref 1 i 0 n cap), (1, .int .i64 (a : Int)), (2, .int .i64 (b : Int)), (7, .int .i64 (I : Int)), (8, .int .i64 (jj : Int))] (⟨[(i, .cells (rowT hT (fixUp ltH b I g)))], [], off, none⟩) ?_ ?_
        · by_cases h3 : b - I ≥ 2
          · obtain ⟨D, hD⟩ : ∃ D, shiftUp ltH b (I + 1) g = D := ⟨_, rfl⟩
            have hf : fixUp ltH b I g = D := by unfold fixUp; rw [if_pos h3]; exact hD
            rw [hf]
            repeat' (first
    | ((first | (show AL _ _ _ _ _ _ _ _; refine Ae Y ?_) | (show DL _ _ _ _ _ _ _; refine' Aw Y Y (fun K kk => ?_) ?_; try (show Go.Ts.T; rotate_left))); (first
      | (show AOp _ _ ⟨_, .move _, _, _, _, _⟩ _ _ _; refine Ar hG Y Y ?_)
      | (show AOp _ _ ⟨_, .assign _, _, _, _, _⟩ _ _ _; refine A2 hG Y Y ?_)
      | (show AOp _ _ ⟨_, .binOp .add _ _ _ _, _, _, _, _⟩ _ _ _; first | refine Ad hG Y Y Y Y Y (by omega) ?_ | refine Ad (m := 1) hG Y Y Y Y Y (by omega) ?_ | refine Aa hG Y Y Y Y Y (by omega) ?_)
      | (show AOp _ _ ⟨_, .binOp .sub _ _ _ _, _, _, _, _⟩ _ _ _; first | refine Ah hG Y Y Y Y (by omega) ?_ | refine Ah (m := 1) hG Y Y Y Y (by omega) ?_ | refine Aa hG Y Y Y Y Y (by omega) ?_)
      | (show AOp _ _ ⟨_, .binOp _ _ _ _ _, _, _, _, _⟩ _ _ _; first | refine Ax hG Y Y Y Y Y (by omega) ?_ | refine Ay hG Y Y Y Y Y (by omega) ?_ | ((fail_if_success have := kk); refine Ak hG Y Y Y Y Y (fun h => ?_) (fun h => ?_)))
      | (show AOp _ _ ⟨_, .load _ _, _, _, _, _⟩ _ _ _; first | refine A5 (α := UInt16) 0 hG Y Y Y Y (by omega) Y ?_ | refine A8 hG Y Y Y ?_ | refine Bn 0 hG Y Y Y Y ?_)
      | (show AOp _ _ ⟨_, .indexAddr _ _ _, _, _, _, _⟩ _ _ _; first | refine Bb hG Y Y Y Y Y Y Y (by omega) ?_ | refine A6 hG Y Y Y Y Y Y Y (by omega) ?_ | refine A7 hG Y Y Y Y Y Y Y (by omega) ?_ | refine Bg hG Y Y ?_)
      | (show AOp _ _ ⟨_, .pick _ _ _, _, _, _, _⟩ _ _ _; refine Ba hG Y Y Y ?_)
      | (show AOp _ _ ⟨_, .unOp _ _ _, _, _, _, _⟩ _ _ _; refine Bm hG Y Y Y ?_)
      | (show AOp _ _ ⟨_, .store _ _ _, _, _, _, _⟩ _ _ _; first | refine Bd (α := UInt16) 0 hG Y Y Y Ai Be Y Y (by first | omega | (simp only [Array.size_setIfInBounds]; omega)) ?_ | refine Bu 0 hG Y Y Y Y Y Y Y ?_)
      | refine r_q hG Y Y Y ?_); try exact kk)
    | (show AL _ _ _ _ _ _ _ _; first | refine Bk Y Y Y ?_ | (refine As ?_; first | show AW _ _ _ _ _ _ | show ∃ x', _ < _ ∧ _)) | (show AW _ _ (.seq _ _) _ _ _; refine Ag ?_; intro Q1) | (show AW _ _ (.region _ _ false) _ _ _; refine Ac ?_; intro O1) | (show AW _ _ (.cond _ _ _) _ _ _; first | refine Ao Y ?_ | refine Ap Y ?_ | refine Bo Y (fun h => ?_) (fun h => ?_)) | (show AW _ _ (.skip) _ _ _; refine Aj ?_; first | show AW _ _ _ _ _ _ | show ∃ x', _ < _ ∧ _) | (show AW _ _ (.block _ _) _ _ _; refine Al ?_; intro Q1) | (show AW _ _ (.exit _) _ _ _; refine Av ?_; first | show AW _ _ _ _ _ _ | show ∃ x', _ < _ ∧ _) | (show AW _ _ (.ret) _ _ _; refine Au ?_; try dsimp only [Az, Ab, A4, Af])
    | (show DL _ _ _ _ _ _ _; refine Bq Y Y (fun K kt kf => Ak hG Y Y Y Y Y kt kf) (fun h => ?_) (fun h => ?_))
    | (show DL _ _ _ _ _ _ _; refine Br Y Y Y ?_) | (show DL _ _ _ _ _ _ _; refine A9 ?_; first | show AW _ _ _ _ _ _ | show ∃ x', _ < _ ∧ _) | (show AW _ _ (.region _ _ true) _ _ _; refine Aq mix (by kernel_rfl) ?_; intro O1) | fail)
            refine aw_loop_to 6 (X := SuX D b n) (fun x => [(0, .aref 1 i 0 n cap), (1, .int .i64 (a : Int)), (2, .int .i64 (b : Int)), (7, .int .i64 (I : Int)), (8, .int .i64 (jj : Int)), (10, .int .i64 (x.p : Int))]) (fun x => ⟨[(i, .cells (rowT hT x.d))], [], off, none⟩) (fun x => b - x.p) ⟨I + 1, g, hfn, by omega, hD⟩ (by repeat (first | exact .nil _ | refine .cons rfl ?_)) (.refl _) [(0, .aref 1 i 0 n cap), (1, .int .i64 (a : Int)), (2, .int .i64 (b : Int)), (7, .int .i64 (I : Int)), (8, .int .i64 (jj : Int))] (⟨[(i, .cells (rowT hT D))], [], off, none⟩) ?_ ?_
            · rintro ⟨q, e, hen, hq, hrq⟩
              dsimp only at hrq ⊢
              by_cases hqb : q < b
              · rw [shiftUp, if_pos hqb] at hrq
                repeat' (first
    | ((first | (show AL _ _ _ _ _ _ _ _; refine Ae Y ?_) | (show DL _ _ _ _ _ _ _; refine' Aw Y Y (fun K kk => ?_) ?_; try (show Go.Ts.T; rotate_left))); (first
      | (show AOp _ _ ⟨_, .move _, _, _, _, _⟩ _ _ _; refine Ar hG Y Y ?_)
      | (show AOp _ _ ⟨_, .assign _, _, _, _, _⟩ _ _ _; refine A2 hG Y Y ?_)
      | (show AOp _ _ ⟨_, .binOp .add _ _ _ _, _, _, _, _⟩ _ _ _; first | refine Ad hG Y Y Y Y Y (by omega) ?_ | refine Ad (m := 1) hG Y Y Y Y Y (by omega) ?_ | refine Aa hG Y Y Y Y Y (by omega) ?_)
      | (show AOp _ _ ⟨_, .binOp .sub _ _ _ _, _, _, _, _⟩ _ _ _; first | refine Ah hG Y Y Y Y (by omega) ?_ | refine Ah (m := 1) hG Y Y Y Y (by omega) ?_ | refine Aa hG Y Y Y Y Y (by omega) ?_)
      | (show AOp _ _ ⟨_, .binOp _ _ _ _ _, _, _, _, _⟩ _ _ _; first | refine Ax hG Y Y Y Y Y (by omega) ?_ | refine Ay hG Y Y Y Y Y (by omega) ?_ | ((fail_if_success have := kk); refine Ak hG Y Y Y Y Y (fun h => ?_) (fun h => ?_)))
      | (show AOp _ _ ⟨_, .load _ _, _, _, _, _⟩ _ _ _; first | refine A5 (α := UInt16) 0 hG Y Y Y Y (by omega) Y ?_ | refine A8 hG Y Y Y ?_ | refine Bn 0 hG Y Y Y Y ?_)
      | (show AOp _ _ ⟨_, .indexAddr _ _ _, _, _, _, _⟩ _ _ _; first | refine Bb hG Y Y Y Y Y Y Y (by omega) ?_ | refine A6 hG Y Y Y Y Y Y Y (by omega) ?_ | refine A7 hG Y Y Y Y Y Y Y (by omega) ?_ | refine Bg hG Y Y ?_)
      | (show AOp _ _ ⟨_, .pick _ _ _, _, _, _, _⟩ _ _ _; refine Ba hG Y Y Y ?_)
      | (show AOp _ _ ⟨_, .unOp _ _ _, _, _, _, _⟩ _ _ _; refine Bm hG Y Y Y ?_)
      | (show AOp _ _ ⟨_, .store _ _ _, _, _, _, _⟩ _ _ _; first | refine Bd (α := UInt16) 0 hG Y Y Y Ai Be Y Y (by first | omega | (simp only [Array.size_setIfInBounds]; omega)) ?_ | refine Bu 0 hG Y Y Y Y Y Y Y ?_)
      | (show AOp _ _ ⟨_, .call ⟨.value _, _, _⟩, _, _, _, _⟩ _ _ _; first | refine Bp Y Y Y Y Y (by apply Ce <;> (first | assumption | omega | exact Am _ _ | exact A0 _ | exact A1 _ _ | exact Bc _ | rfl | (simp; omega))) ?_ | fail)
      | refine r_q hG Y Y Y ?_); try exact kk)
    | (show AL _ _ _ _ _ _ _ _; first | refine Bk Y Y Y ?_ | (refine As ?_; first | show AW _ _ _ _ _ _ | show ∃ x', _ < _ ∧ _)) | (show AW _ _ (.seq _ _) _ _ _; refine Ag ?_; intro Q1) | (show AW _ _ (.region _ _ false) _ _ _; (fail_if_success show AW _ _ (.region 23 _ _) _ _ _); refine Ac ?_; intro O1) | (show AW _ _ (.cond _ _ _) _ _ _; first | refine Ao Y ?_ | refine Ap Y ?_ | refine Bo Y (fun h => ?_) (fun h => ?_)) | (show AW _ _ (.skip) _ _ _; refine Aj ?_; first | show AW _ _ _ _ _ _ | show ∃ x', _ < _ ∧ _) | (show AW _ _ (.block _ _) _ _ _; refine Al ?_; intro Q1) | (show AW _ _ (.exit _) _ _ _; refine Av ?_; first | show AW _ _ _ _ _ _ | show ∃ x', _ < _ ∧ _) | (show AW _ _ (.ret) _ _ _; refine Au ?_; try dsimp only [Az, Ab, A4, Af])
    | (show DL _ _ _ _ _ _ _; refine Bq Y Y (fun K kt kf => Ak hG Y Y Y Y Y kt kf) (fun h => ?_) (fun h => ?_))
    | (show DL _ _ _ _ _ _ _; refine Br Y Y Y ?_) | (show DL _ _ _ _ _ _ _; refine A9 ?_; first | show AW _ _ _ _ _ _ | show ∃ x', _ < _ ∧ _) | (show AW _ _ (.region _ _ true) _ _ _; (fail_if_success show AW _ _ (.region 23 _ _) _ _ _); refine Aq mix (by kernel_rfl) ?_; intro O1) | fail)
                · rw [if_pos h] at hrq
                  subst hrq
                  (refine Av ?_; show _ ∧ Knows _ _ ∧ _; exact ⟨rfl, (by repeat (first | exact .nil _ | refine .cons rfl ?_)), rfl⟩)
                · rw [if_neg (by rw [h]; simp)] at hrq
                  refine Cc (m := 16) [15] [9, 13] (fun σ => ∃ c : Array UInt16, c.size = n ∧ σ = ⟨[(i, .cells (rowT hT c))], [], off, none⟩) mix Y Y (by repeat (first | exact Sp.zero _ | apply Sp.succ)) ?_; intro O1 F1 Z1 Q2; repeat' (first
    | (refine' dq0_cons Y Y Y Y (fun σ hσ K kk => ?_) ?_; (try (show Go.Ts.T; rotate_left)); (obtain ⟨c, hcn, hcs⟩ := hσ; subst hcs); (first
      | (show AOp _ _ ⟨_, .move _, _, _, _, _⟩ _ _ _; refine Ar hG Y Y ?_)
      | (show AOp _ _ ⟨_, .assign _, _, _, _, _⟩ _ _ _; refine A2 hG Y Y ?_)
      | (show AOp _ _ ⟨_, .binOp .add _ _ _ _, _, _, _, _⟩ _ _ _; first | refine Ad hG Y Y Y Y Y (by omega) ?_ | refine Ad (m := 1) hG Y Y Y Y Y (by omega) ?_ | refine Aa hG Y Y Y Y Y (by omega) ?_)
      | (show AOp _ _ ⟨_, .binOp .sub _ _ _ _, _, _, _, _⟩ _ _ _; first | refine Ah hG Y Y Y Y (by omega) ?_ | refine Ah (m := 1) hG Y Y Y Y (by omega) ?_ | refine Aa hG Y Y Y Y Y (by omega) ?_)
      | (show AOp _ _ ⟨_, .binOp _ _ _ _ _, _, _, _, _⟩ _ _ _; first | refine Ax hG Y Y Y Y Y (by omega) ?_ | refine Ay hG Y Y Y Y Y (by omega) ?_)
      | (show AOp _ _ ⟨_, .load _ _, _, _, _, _⟩ _ _ _; first | refine A5 (α := UInt16) 0 hG Y Y Y Y (by omega) Y ?_ | refine A5 (α := UInt16) 1 hG Y Y Y Y (by omega) Y ?_ | refine A8 hG Y Y Y ?_ | refine Bn 0 hG Y Y Y Y ?_)
      | (show AOp _ _ ⟨_, .indexAddr _ _ _, _, _, _, _⟩ _ _ _; first | refine Bb hG Y Y Y Y Y Y Y (by omega) ?_ | refine A6 hG Y Y Y Y Y Y Y (by omega) ?_ | refine A7 hG Y Y Y Y Y Y Y (by omega) ?_ | refine Bg hG Y Y ?_)
      | (show AOp _ _ ⟨_, .pick _ _ _, _, _, _, _⟩ _ _ _; refine Ba hG Y Y Y ?_)
      | (show AOp _ _ ⟨_, .unOp _ _ _, _, _, _, _⟩ _ _ _; refine Bm hG Y Y Y ?_)
      | (show AOp _ _ ⟨_, .store _ _ _, _, _, _, _⟩ _ _ _; first | refine Bd (α := UInt16) 0 hG Y Y Y Ai Be Y Y (by first | omega | (simp only [Array.size_setIfInBounds]; omega)) ?_ | refine Bu 0 hG Y Y Y Y Y Y Y ?_)
      | refine r_q hG Y Y Y ?_); exact kk)
    | (refine' Cd Y Y Y Y (fun K kk => ?_) ?_; (try (show Go.Ts.T; rotate_left)); (first | refine A5 0 hG Y Y Y Y (by omega) Y ?_ | refine A5 1 hG Y Y Y Y (by omega) Y ?_); exact kk)
    | refine dq0_e Y ?_ | (refine dq0_nil ?_; show EL _ _ _ _ _ _ _ _ _)
    | (refine el_consN ⟨_, (by first | assumption | (simp only [Array.size_setIfInBounds]; omega)), Y⟩ Y Y Y (fun K ke => ?_); (first | refine Bd (α := UInt16) 0 hG Y Y Y Ai Be Y Y (by first | omega | (simp only [Array.size_setIfInBounds]; omega)) ?_ | refine Bd (α := UInt16) 1 hG Y Y Y Ai Be Y Y (by first | omega | (simp only [Array.size_setIfInBounds]; omega)) ?_); refine ke (.tup []) _ ?_)
    | (refine el_nil ⟨_, (by first | assumption | (simp only [Array.size_setIfInBounds]; omega)), Y⟩ ?_; show AL _ _ _ _ _ _ _ _) | fail)
                  repeat' (first
    | ((first | (show AL _ _ _ _ _ _ _ _; refine Ae Y ?_) | (show DL _ _ _ _ _ _ _; refine' Aw Y Y (fun K kk => ?_) ?_; try (show Go.Ts.T; rotate_left))); (first
      | (show AOp _ _ ⟨_, .move _, _, _, _, _⟩ _ _ _; refine Ar hG Y Y ?_)
      | (show AOp _ _ ⟨_, .assign _, _, _, _, _⟩ _ _ _; refine A2 hG Y Y ?_)
      | (show AOp _ _ ⟨_, .binOp .add _ _ _ _, _, _, _, _⟩ _ _ _; first | refine Ad hG Y Y Y Y Y (by omega) ?_ | refine Ad (m := 1) hG Y Y Y Y Y (by omega) ?_ | refine Aa hG Y Y Y Y Y (by omega) ?_)
      | (show AOp _ _ ⟨_, .binOp .sub _ _ _ _, _, _, _, _⟩ _ _ _; first | refine Ah hG Y Y Y Y (by omega) ?_ | refine Ah (m := 1) hG Y Y Y Y (by omega) ?_ | refine Aa hG Y Y Y Y Y (by omega) ?_)
      | (show AOp _ _ ⟨_, .binOp _ _ _ _ _, _, _, _, _⟩ _ _ _; first | refine Ax hG Y Y Y Y Y (by omega) ?_ | refine Ay hG Y Y Y Y Y (by omega) ?_ | ((fail_if_success have := kk); refine Ak hG Y Y Y Y Y (fun h => ?_) (fun h => ?_)))
      | (show AOp _ _ ⟨_, .load _ _, _, _, _, _⟩ _ _ _; first | refine A5 (α := UInt16) 0 hG Y Y Y Y (by omega) Y ?_ | refine A8 hG Y Y Y ?_ | refine Bn 0 hG Y Y Y Y ?_)
      | (show AOp _ _ ⟨_, .indexAddr _ _ _, _, _, _, _⟩ _ _ _; first | refine Bb hG Y Y Y Y Y Y Y (by omega) ?_ | refine A6 hG Y Y Y Y Y Y Y (by omega) ?_ | refine A7 hG Y Y Y Y Y Y Y (by omega) ?_ | refine Bg hG Y Y ?_)
      | (show AOp _ _ ⟨_, .pick _ _ _, _, _, _, _⟩ _ _ _; refine Ba hG Y Y Y ?_)
      | (show AOp _ _ ⟨_, .unOp _ _ _, _, _, _, _⟩ _ _ _; refine Bm hG Y Y Y ?_)
      | (show AOp _ _ ⟨_, .store _ _ _, _, _, _, _⟩ _ _ _; first | refine Bd (α := UInt16) 0 hG Y Y Y Ai Be Y Y (by first | omega | (simp only [Array.size_setIfInBounds]; omega)) ?_ | refine Bu 0 hG Y Y Y Y Y Y Y ?_)
      | refine r_q hG Y Y Y ?_); try exact kk)
    | (show AL _ _ _ _ _ _ _ _; first | refine Bk Y Y Y ?_ | (refine As ?_; first | show AW _ _ _ _ _ _ | show ∃ x', _ < _ ∧ _)) | (show AW _ _ (.seq _ _) _ _ _; refine Ag ?_; intro Q1) | (show AW _ _ (.region _ _ false) _ _ _; refine Ac ?_; intro O1) | (show AW _ _ (.cond _ _ _) _ _ _; first | refine Ao Y ?_ | refine Ap Y ?_ | refine Bo Y (fun h => ?_) (fun h => ?_)) | (show AW _ _ (.skip) _ _ _; refine Aj ?_; first | show AW _ _ _ _ _ _ | show ∃ x', _ < _ ∧ _) | (show AW _ _ (.block _ _) _ _ _; refine Al ?_; intro Q1) | (show AW _ _ (.exit _) _ _ _; refine Av ?_; first | show AW _ _ _ _ _ _ | show ∃ x', _ < _ ∧ _) | (show AW _ _ (.ret) _ _ _; refine Au ?_; try dsimp only [Az, Ab, A4, Af])
    | (show DL _ _ _ _ _ _ _; refine Bq Y Y (fun K kt kf => Ak hG Y Y Y Y Y kt kf) (fun h => ?_) (fun h => ?_))
    | (show DL _ _ _ _ _ _ _; refine Br Y Y Y ?_) | (show DL _ _ _ _ _ _ _; refine A9 ?_; first | show AW _ _ _ _ _ _ | show ∃ x', _ < _ ∧ _) | (show AW _ _ (.region _ _ true) _ _ _; refine Aq mix (by kernel_rfl) ?_; intro O1) | fail)
                  exact ⟨⟨q + 1, swp e q (q - 1), by rw [size_swp]; exact hen, by omega, hrq⟩, by dsimp only; omega, (by repeat (first | exact .nil _ | refine .cons rfl ?_)), .refl _⟩
              · rw [shiftUp, if_neg hqb] at hrq
                subst hrq
                repeat' (first
    | ((first | (show AL _ _ _ _ _ _ _ _; refine Ae Y ?_) | (show DL _ _ _ _ _ _ _; refine' Aw Y Y (fun K kk => ?_) ?_; try (show Go.Ts.T; rotate_left))); (first
      | (show AOp _ _ ⟨_, .move _, _, _, _, _⟩ _ _ _; refine Ar hG Y Y ?_)
      | (show AOp _ _ ⟨_, .assign _, _, _, _, _⟩ _ _ _; refine A2 hG Y Y ?_)
      | (show AOp _ _ ⟨_, .binOp .add _ _ _ _, _, _, _, _⟩ _ _ _; first | refine Ad hG Y Y Y Y Y (by omega) ?_ | refine Ad (m := 1) hG Y Y Y Y Y (by omega) ?_ | refine Aa hG Y Y Y Y Y (by omega) ?_)
      | (show AOp _ _ ⟨_, .binOp .sub _ _ _ _, _, _, _, _⟩ _ _ _; first | refine Ah hG Y Y Y Y (by omega) ?_ | refine Ah (m := 1) hG Y Y Y Y (by omega) ?_ | refine Aa hG Y Y Y Y Y (by omega) ?_)
      | (show AOp _ _ ⟨_, .binOp _ _ _ _ _, _, _, _, _⟩ _ _ _; first | refine Ax hG Y Y Y Y Y (by omega) ?_ | refine Ay hG Y Y Y Y Y (by omega) ?_ | ((fail_if_success have := kk); refine Ak hG Y Y Y Y Y (fun h => ?_) (fun h => ?_)))
      | (show AOp _ _ ⟨_, .load _ _, _, _, _, _⟩ _ _ _; first | refine A5 (α := UInt16) 0 hG Y Y Y Y (by omega) Y ?_ | refine A8 hG Y Y Y ?_ | refine Bn 0 hG Y Y Y Y ?_)
      | (show AOp _ _ ⟨_, .indexAddr _ _ _, _, _, _, _⟩ _ _ _; first | refine Bb hG Y Y Y Y Y Y Y (by omega) ?_ | refine A6 hG Y Y Y Y Y Y Y (by omega) ?_ | refine A7 hG Y Y Y Y Y Y Y (by omega) ?_ | refine Bg hG Y Y ?_)
      | (show AOp _ _ ⟨_, .pick _ _ _, _, _, _, _⟩ _ _ _; refine Ba hG Y Y Y ?_)
      | (show AOp _ _ ⟨_, .unOp _ _ _, _, _, _, _⟩ _ _ _; refine Bm hG Y Y Y ?_)
      | (show AOp _ _ ⟨_, .store _ _ _, _, _, _, _⟩ _ _ _; first | refine Bd (α := UInt16) 0 hG Y Y Y Ai Be Y Y (by first | omega | (simp only [Array.size_setIfInBounds]; omega)) ?_ | refine Bu 0 hG Y Y Y Y Y Y Y ?_)
      | (show AOp _ _ ⟨_, .call ⟨.value _, _, _⟩, _, _, _, _⟩ _ _ _; first | refine Bp Y Y Y Y Y (by apply Ce <;> (first | assumption | omega | exact Am _ _ | exact A0 _ | exact A1 _ _ | exact Bc _ | rfl | (simp; omega))) ?_ | fail)
      | refine r_q hG Y Y Y ?_); try exact kk)
    | (show AL _ _ _ _ _ _ _ _; first | refine Bk Y Y Y ?_ | (refine As ?_; first | show AW _ _ _ _ _ _ | show ∃ x', _ < _ ∧ _)) | (show AW _ _ (.seq _ _) _ _ _; refine Ag ?_; intro Q1) | (show AW _ _ (.region _ _ false) _ _ _; refine Ac ?_; intro O1) | (show AW _ _ (.cond _ _ _) _ _ _; first | refine Ao Y ?_ | refine Ap Y ?_ | refine Bo Y (fun h => ?_) (fun h => ?_)) | (show AW _ _ (.skip) _ _ _; refine Aj ?_; first | show AW _ _ _ _ _ _ | show ∃ x', _ < _ ∧ _) | (show AW _ _ (.block _ _) _ _ _; refine Al ?_; intro Q1) | (show AW _ _ (.exit _) _ _ _; refine Av ?_; first | show AW _ _ _ _ _ _ | show ∃ x', _ < _ ∧ _) | (show AW _ _ (.ret) _ _ _; refine Au ?_; try dsimp only [Az, Ab, A4, Af])
    | (show DL _ _ _ _ _ _ _; refine Bq Y Y (fun K kt kf => Ak hG Y Y Y Y Y kt kf) (fun h => ?_) (fun h => ?_))
    | (show DL _ _ _ _ _ _ _; refine Br Y Y Y ?_) | (show DL _ _ _ _ _ _ _; refine A9 ?_; first | show AW _ _ _ _ _ _ | show ∃ x', _ < _ ∧ _) | (show AW _ _ (.region _ _ true) _ _ _; refine Aq mix (by kernel_rfl) ?_; intro O1) | fail)
                (refine Av ?_; show _ ∧ Knows _ _ ∧ _; exact ⟨rfl, (by repeat (first | exact .nil _ | refine .cons rfl ?_)), rfl⟩)
            · intro a' hk
              exact ⟨rfl, hk, rfl⟩
          · have hf : fixUp ltH b I g = g := by unfold fixUp; rw [if_neg h3]
            rw [hf]
            repeat' (first
    | ((first | (show AL _ _ _ _ _ _ _ _; refine Ae Y ?_) | (show DL _ _ _ _ _ _ _; refine' Aw Y Y (fun K kk => ?_) ?_; try (show Go.Ts.T; rotate_left))); (first
      | (show AOp _ _ ⟨_, .move _, _, _, _, _⟩ _ _ _; refine Ar hG Y Y ?_)
      | (show AOp _ _ ⟨_, .assign _, _, _, _, _⟩ _ _ _; refine A2 hG Y Y ?_)
      | (show AOp _ _ ⟨_, .binOp .add _ _ _ _, _, _, _, _⟩ _ _ _; first | refine Ad hG Y Y Y Y Y (by omega) ?_ | refine Ad (m := 1) hG Y Y Y Y Y (by omega) ?_ | refine Aa hG Y Y Y Y Y (by omega) ?_)
      | (show AOp _ _ ⟨_, .binOp .sub _ _ _ _, _, _, _, _⟩ _ _ _; first | refine Ah hG Y Y Y Y (by omega) ?_ | refine Ah (m := 1) hG Y Y Y Y (by omega) ?_ | refine Aa hG Y Y Y Y Y (by omega) ?_)
      | (show AOp _ _ ⟨_, .binOp _ _ _ _ _, _, _, _, _⟩ _ _ _; first | refine Ax hG Y Y Y Y Y (by omega) ?_ | refine Ay hG Y Y Y Y Y (by omega) ?_ | ((fail_if_success have := kk); refine Ak hG Y Y Y Y Y (fun h => ?_) (fun h => ?_)))
      | (show AOp _ _ ⟨_, .load _ _, _, _, _, _⟩ _ _ _; first | refine A5 (α := UInt16) 0 hG Y Y Y Y (by omega) Y ?_ | refine A8 hG Y Y Y ?_ | refine Bn 0 hG Y Y Y Y ?_)
      | (show AOp _ _ ⟨_, .indexAddr _ _ _, _, _, _, _⟩ _ _ _; first | refine Bb hG Y Y Y Y Y Y Y (by omega) ?_ | refine A6 hG Y Y Y Y Y Y Y (by omega) ?_ | refine A7 hG Y Y Y Y Y Y Y (by omega) ?_ | refine Bg hG Y Y ?_)
      | (show AOp _ _ ⟨_, .pick _ _ _, _, _, _, _⟩ _ _ _; refine Ba hG Y Y Y ?_)
      | (show AOp _ _ ⟨_, .unOp _ _ _, _, _, _, _⟩ _ _ _; refine Bm hG Y Y Y ?_)
      | (show AOp _ _ ⟨_, .store _ _ _, _, _, _, _⟩ _ _ _; first | refine Bd (α := UInt16) 0 hG Y Y Y Ai Be Y Y (by first | omega | (simp only [Array.size_setIfInBounds]; omega)) ?_ | refine Bu 0 hG Y Y Y Y Y Y Y ?_)
      | refine r_q hG Y Y Y ?_); try exact kk)
    | (show AL _ _ _ _ _ _ _ _; first | refine Bk Y Y Y ?_ | (refine As ?_; first | show AW _ _ _ _ _ _ | show ∃ x', _ < _ ∧ _)) | (show AW _ _ (.seq _ _) _ _ _; refine Ag ?_; intro Q1) | (show AW _ _ (.region _ _ false) _ _ _; refine Ac ?_; intro O1) | (show AW _ _ (.cond _ _ _) _ _ _; first | refine Ao Y ?_ | refine Ap Y ?_ | refine Bo Y (fun h => ?_) (fun h => ?_)) | (show AW _ _ (.skip) _ _ _; refine Aj ?_; first | show AW _ _ _ _ _ _ | show ∃ x', _ < _ ∧ _) | (show AW _ _ (.block _ _) _ _ _; refine Al ?_; intro Q1) | (show AW _ _ (.exit _) _ _ _; refine Av ?_; first | show AW _ _ _ _ _ _ | show ∃ x', _ < _ ∧ _) | (show AW _ _ (.ret) _ _ _; refine Au ?_; try dsimp only [Az, Ab, A4, Af])
    | (show DL _ _ _ _ _ _ _; refine Bq Y Y (fun K kt kf => Ak hG Y Y Y Y Y kt kf) (fun h => ?_) (fun h => ?_))
    | (show DL _ _ _ _ _ _ _; refine Br Y Y Y ?_) | (show DL _ _ _ _ _ _ _; refine A9 ?_; first | show AW _ _ _ _ _ _ | show ∃ x', _ < _ ∧ _) | (show AW _ _ (.region _ _ true) _ _ _; refine Aq mix (by kernel_rfl) ?_; intro O1) | fail)
            refine Aj ?_
            exact ⟨rfl, (by repeat (first | exact .nil _ | refine .cons rfl ?_)), rfl⟩
        intro a' hk
        show AW _ _ _ _ _ _
        refine aw_forget hk ?_
        repeat' (first
    | ((first | (show AL _ _ _ _ _ _ _ _; refine Ae Y ?_) | (show DL _ _ _ _ _ _ _; refine' Aw Y Y (fun K kk => ?_) ?_; try (show Go.Ts.T; rotate_left))); (first
      | (show AOp _ _ ⟨_, .move _, _, _, _, _⟩ _ _ _; refine Ar hG Y Y ?_)
      | (show AOp _ _ ⟨_, .assign _, _, _, _, _⟩ _ _ _; refine A2 hG Y Y ?_)
      | (show AOp _ _ ⟨_, .binOp .add _ _ _ _, _, _, _, _⟩ _ _ _; first | refine Ad hG Y Y Y Y Y (by omega) ?_ | refine Ad (m := 1) hG Y Y Y Y Y (by omega) ?_ | refine Aa hG Y Y Y Y Y (by omega) ?_)
      | (show AOp _ _ ⟨_, .binOp .sub _ _ _ _, _, _, _, _⟩ _ _ _; first | refine Ah hG Y Y Y Y (by omega) ?_ | refine Ah (m := 1) hG Y Y Y Y (by omega) ?_ | refine Aa hG Y Y Y Y Y (by omega) ?_)
      | (show AOp _ _ ⟨_, .binOp _ _ _ _ _, _, _, _, _⟩ _ _ _; first | refine Ax hG Y Y Y Y Y (by omega) ?_ | refine Ay hG Y Y Y Y Y (by omega) ?_ | ((fail_if_success have := kk); refine Ak hG Y Y Y Y Y (fun h => ?_) (fun h => ?_)))
      | (show AOp _ _ ⟨_, .load _ _, _, _, _, _⟩ _ _ _; first | refine A5 (α := UInt16) 0 hG Y Y Y Y (by omega) Y ?_ | refine A8 hG Y Y Y ?_ | refine Bn 0 hG Y Y Y Y ?_)
      | (show AOp _ _ ⟨_, .indexAddr _ _ _, _, _, _, _⟩ _ _ _; first | refine Bb hG Y Y Y Y Y Y Y (by omega) ?_ | refine A6 hG Y Y Y Y Y Y Y (by omega) ?_ | refine A7 hG Y Y Y Y Y Y Y (by omega) ?_ | refine Bg hG Y Y ?_)
      | (show AOp _ _ ⟨_, .pick _ _ _, _, _, _, _⟩ _ _ _; refine Ba hG Y Y Y ?_)
      | (show AOp _ _ ⟨_, .unOp _ _ _, _, _, _, _⟩ _ _ _; refine Bm hG Y Y Y ?_)
      | (show AOp _ _ ⟨_, .store _ _ _, _, _, _, _⟩ _ _ _; first | refine Bd (α := UInt16) 0 hG Y Y Y Ai Be Y Y (by first | omega | (simp only [Array.size_setIfInBounds]; omega)) ?_ | refine Bu 0 hG Y Y Y Y Y Y Y ?_)
      | refine r_q hG Y Y Y ?_); try exact kk)
    | (show AL _ _ _ _ _ _ _ _; first | refine Bk Y Y Y ?_ | (refine As ?_; first | show AW _ _ _ _ _ _ | show ∃ x', _ < _ ∧ _)) | (show AW _ _ (.seq _ _) _ _ _; refine Ag ?_; intro Q1) | (show AW _ _ (.region _ _ false) _ _ _; refine Ac ?_; intro O1) | (show AW _ _ (.cond _ _ _) _ _ _; first | refine Ao Y ?_ | refine Ap Y ?_ | refine Bo Y (fun h => ?_) (fun h => ?_)) | (show AW _ _ (.skip) _ _ _; refine Aj ?_; first | show AW _ _ _ _ _ _ | show ∃ x', _ < _ ∧ _) | (show AW _ _ (.block _ _) _ _ _; refine Al ?_; intro Q1) | (show AW _ _ (.exit _) _ _ _; refine Av ?_; first | show AW _ _ _ _ _ _ | show ∃ x', _ < _ ∧ _) | (show AW _ _ (.ret) _ _ _; refine Au ?_; try dsimp only [Az, Ab, A4, Af])
    | (show DL _ _ _ _ _ _ _; refine Bq Y Y (fun K kt kf => Ak hG Y Y Y Y Y kt kf) (fun h => ?_) (fun h => ?_))
    | (show DL _ _ _ _ _ _ _; refine Br Y Y Y ?_) | (show DL _ _ _ _ _ _ _; refine A9 ?_; first | show AW _ _ _ _ _ _ | show ∃ x', _ < _ ∧ _) | (show AW _ _ (.region _ _ true) _ _ _; refine Aq mix (by kernel_rfl) ?_; intro O1) | fail)
        exact ⟨⟨s, I, jj + 1, fixUp ltH b I g, by rw [fixUp_size]; exact hfn, by omega, by omega, hr⟩, by dsimp only; omega, (by repeat (first | exact .nil _ | refine .cons rfl ?_)), .refl _⟩
end Go.Proofs.Ytnmpgipfbbilbaa
namespace Go.Proofs.Ytnmpgipfbbilbaa
open Go.Ts
set_option linter.unusedSimpArgs false
set_option linter.unusedVariables false
attribute [local irreducible] Go.Ts.AW Go.Ts.AOps Go.Ts.AL Go.Ts.AOp Go.Ts.ACalls Go.Ts.DL Go.Ts.DQ0 Go.Ts.EL
open Go.Sort
theorem ltH_swo : SWO ltH where
  irrefl x := by simp [ltH]
  trans x y z h k := by simp [ltH] at *; omega
  ntrans x y z h k := by simp [ltH] at *; omega
structure PdX (n m : Nat) (r : Array UInt16) where
  a : Nat
  b : Nat
  lim : Nat
  wb : Bool
  wp : Bool
  d : Array UInt16
  hn : d.size = n
  hab : a ≤ b
  hb : b ≤ n
  hm : b - a ≤ m
  hl : lim < 256
  hB : Below ltH a b d
  e : pdq ltH d a b lim wb wp = r
set_option maxHeartbeats 2000000 in
theorem srt_pdq : ∀ (m : Nat) {d0 : Array UInt16} {a b lim : Nat}, b - a ≤ m → a ≤ b → b ≤ d0.size → d0.size < 256 → lim < 256 → Below ltH a b d0 →
    OnRow Try.prog 39 hT [.int .i64 (a : Int), .int .i64 (b : Int), .int .i64 (lim : Int)] d0 (.tup []) (pdq ltH d0 a b lim true true) := by
  intro m
  induction m using Nat.strongRecOn with
  | ind m IH =>
  intro d0 a b lim hm hab hb hs hl hB off i n cap hn
  obtain ⟨R, hR⟩ : ∃ R, pdq ltH d0 a b lim true true = R := ⟨_, rfl⟩
  rw [hR]
  refine Bs (N := 134) (rs := []) hG Try.func39 rfl rfl rfl rfl rfl ?_
  repeat' (first
    | ((first | (show AL _ _ _ _ _ _ _ _; refine Ae Y ?_) | (show DL _ _ _ _ _ _ _; refine' Aw Y Y (fun K kk => ?_) ?_; try (show Go.Ts.T; rotate_left))); (first
      | (show AOp _ _ ⟨_, .move _, _, _, _, _⟩ _ _ _; refine Ar hG Y Y ?_)
      | (show AOp _ _ ⟨_, .assign _, _, _, _, _⟩ _ _ _; refine A2 hG Y Y ?_)
      | (show AOp _ _ ⟨_, .binOp .add _ _ _ _, _, _, _, _⟩ _ _ _; first | refine Ad hG Y Y Y Y Y (by omega) ?_ | refine Ad (m := 1) hG Y Y Y Y Y (by omega) ?_ | refine Aa hG Y Y Y Y Y (by omega) ?_)
      | (show AOp _ _ ⟨_, .binOp .sub _ _ _ _, _, _, _, _⟩ _ _ _; first | refine Ah hG Y Y Y Y (by omega) ?_ | refine Ah (m := 1) hG Y Y Y Y (by omega) ?_ | refine Aa hG Y Y Y Y Y (by omega) ?_)
      | (show AOp _ _ ⟨_, .binOp .quo _ _ _ _, _, _, _, _⟩ _ _ _; first | refine Bf (m := 2) hG Y Y Y Y (by omega) ?_ | refine Bf (m := 4) hG Y Y Y Y (by omega) ?_ | refine Bf (m := 8) hG Y Y Y Y (by omega) ?_)
      | (show AOp _ _ ⟨_, .binOp _ _ _ _ _, _, _, _, _⟩ _ _ _; first | refine Ax hG Y Y Y Y Y (by omega) ?_ | refine Ay hG Y Y Y Y Y (by omega) ?_ | ((fail_if_success have := kk); refine Ak hG Y Y Y Y Y (fun h => ?_) (fun h => ?_)) | refine Bx hG Y Y Y ?_)
      | (show AOp _ _ ⟨_, .load _ _, _, _, _, _⟩ _ _ _; first | refine A5 (α := UInt16) 0 hG Y Y Y Y (by omega) Y ?_ | refine A8 hG Y Y Y ?_ | refine Bn 0 hG Y Y Y Y ?_)
      | (show AOp _ _ ⟨_, .indexAddr _ _ _, _, _, _, _⟩ _ _ _; first | refine Bb hG Y Y Y Y Y Y Y (by omega) ?_ | refine A6 hG Y Y Y Y Y Y Y (by omega) ?_ | refine A7 hG Y Y Y Y Y Y Y (by omega) ?_ | refine Bg hG Y Y ?_)
      | (show AOp _ _ ⟨_, .pick _ _ _, _, _, _, _⟩ _ _ _; refine Ba hG Y Y Y ?_)
      | (show AOp _ _ ⟨_, .unOp _ _ _, _, _, _, _⟩ _ _ _; refine Bm hG Y Y Y ?_)
      | refine r_q hG Y Y Y ?_); try exact kk)
    | (show AL _ _ _ _ _ _ _ _; first | refine Bk Y Y Y ?_ | (refine As ?_; first | show AW _ _ _ _ _ _ | show ∃ x', _ < _ ∧ _)) | (show AW _ _ (.seq _ _) _ _ _; refine Ag ?_; intro Q1) | (show AW _ _ (.region _ _ false) _ _ _; refine Ac ?_; intro O1) | (show AW _ _ (.cond _ _ _) _ _ _; first | refine Ao Y ?_ | refine Ap Y ?_ | refine Bo Y (fun h => ?_) (fun h => ?_)) | (show AW _ _ (.skip) _ _ _; refine Aj ?_; first | show AW _ _ _ _ _ _ | show ∃ x', _ < _ ∧ _) | (show AW _ _ (.block _ _) _ _ _; refine Al ?_; intro Q1) | (show AW _ _ (.exit _) _ _ _; refine Av ?_; first | show AW _ _ _ _ _ _ | show ∃ x', _ < _ ∧ _) | (show AW _ _ (.ret) _ _ _; refine Au ?_; try dsimp only [Az, Ab, A4, Af])
    | (show DL _ _ _ _ _ _ _; refine Bq Y Y (fun K kt kf => Ak hG Y Y Y Y Y kt kf) (fun h => ?_) (fun h => ?_))
    | (show DL _ _ _ _ _ _ _; refine Br Y Y Y ?_) | (show DL _ _ _ _ _ _ _; refine A9 ?_; first | show AW _ _ _ _ _ _ | show ∃ x', _ < _ ∧ _) | (show AW _ _ (.region _ _ true) _ _ _; refine Aq mix (by kernel_rfl) ?_; intro O1) | fail)
  refine aw_loop (X := PdX n m R) (fun x => [(0, .aref 1 i 0 n cap), (1, .int .i64 (x.a : Int)), (2, .int .i64 (x.b : Int)), (3, .int .i64 (x.lim : Int)), (8, .bool x.wb), (9, .bool x.wp)])
    (fun x => ⟨[(i, .cells (rowT hT x.d))], [], off, none⟩) (fun x => x.b - x.a) ⟨a, b, lim, true, true, d0, hn, hab, by omega, hm, hl, hB, hR⟩ (by repeat (first | exact .nil _ | refine .cons rfl ?_)) (.refl _) ?_
  clear hR hB hl hb hab hm a b lim
  rintro ⟨a, b, lim, wb, wp, d, hdn, hab, hb, hm, hl, hB, e⟩
  dsimp only at e ⊢
  have hn256 : n < 256 := by omega
  by_cases h12 : b - a ≤ 12
  · rw [pdq_small h12] at e
    have h := srt_ins (d0 := d) (a := a) (b := b) (by omega) (by omega) (by omega)
    rw [e] at h
    repeat' (first
    | ((first | (show AL _ _ _ _ _ _ _ _; refine Ae Y ?_) | (show DL _ _ _ _ _ _ _; refine' Aw Y Y (fun K kk => ?_) ?_; try (show Go.Ts.T; rotate_left))); (first
      | (show AOp _ _ ⟨_, .move _, _, _, _, _⟩ _ _ _; refine Ar hG Y Y ?_)
      | (show AOp _ _ ⟨_, .assign _, _, _, _, _⟩ _ _ _; refine A2 hG Y Y ?_)
      | (show AOp _ _ ⟨_, .binOp .add _ _ _ _, _, _, _, _⟩ _ _ _; first | refine Ad hG Y Y Y Y Y (by omega) ?_ | refine Ad (m := 1) hG Y Y Y Y Y (by omega) ?_ | refine Aa hG Y Y Y Y Y (by omega) ?_)
      | (show AOp _ _ ⟨_, .binOp .sub _ _ _ _, _, _, _, _⟩ _ _ _; first | refine Ah hG Y Y Y Y (by omega) ?_ | refine Ah (m := 1) hG Y Y Y Y (by omega) ?_ | refine Aa hG Y Y Y Y Y (by omega) ?_)
      | (show AOp _ _ ⟨_, .binOp .quo _ _ _ _, _, _, _, _⟩ _ _ _; first | refine Bf (m := 2) hG Y Y Y Y (by omega) ?_ | refine Bf (m := 4) hG Y Y Y Y (by omega) ?_ | refine Bf (m := 8) hG Y Y Y Y (by omega) ?_)
      | (show AOp _ _ ⟨_, .binOp _ _ _ _ _, _, _, _, _⟩ _ _ _; first | refine Ax hG Y Y Y Y Y (by omega) ?_ | refine Ay hG Y Y Y Y Y (by omega) ?_ | ((fail_if_success have := kk); refine Ak hG Y Y Y Y Y (fun h => ?_) (fun h => ?_)) | refine Bx hG Y Y Y ?_)
      | (show AOp _ _ ⟨_, .load _ _, _, _, _, _⟩ _ _ _; first | refine A5 (α := UInt16) 0 hG Y Y Y Y (by omega) Y ?_ | refine A8 hG Y Y Y ?_ | refine Bn 0 hG Y Y Y Y ?_)
      | (show AOp _ _ ⟨_, .indexAddr _ _ _, _, _, _, _⟩ _ _ _; first | refine Bb hG Y Y Y Y Y Y Y (by omega) ?_ | refine A6 hG Y Y Y Y Y Y Y (by omega) ?_ | refine A7 hG Y Y Y Y Y Y Y (by omega) ?_ | refine Bg hG Y Y ?_)
      | (show AOp _ _ ⟨_, .pick _ _ _, _, _, _, _⟩ _ _ _; refine Ba hG Y Y Y ?_)
      | (show AOp _ _ ⟨_, .unOp _ _ _, _, _, _, _⟩ _ _ _; refine Bm hG Y Y Y ?_)
      | (show AOp _ _ ⟨_, .call ⟨.value _, _, _⟩, _, _, _, _⟩ _ _ _; first | refine r_row Y Y Y Y Y (List.Perm.refl _) h (by assumption) ?_ | fail)
      | refine r_q hG Y Y Y ?_); try exact kk)
    | (show AL _ _ _ _ _ _ _ _; first | refine Bk Y Y Y ?_ | (refine As ?_; first | show AW _ _ _ _ _ _ | show ∃ x', _ < _ ∧ _)) | (show AW _ _ (.seq _ _) _ _ _; refine Ag ?_; intro Q1) | (show AW _ _ (.region _ _ false) _ _ _; refine Ac ?_; intro O1) | (show AW _ _ (.cond _ _ _) _ _ _; first | refine Ao Y ?_ | refine Ap Y ?_ | refine Bo Y (fun h => ?_) (fun h => ?_)) | (show AW _ _ (.skip) _ _ _; refine Aj ?_; first | show AW _ _ _ _ _ _ | show ∃ x', _ < _ ∧ _) | (show AW _ _ (.block _ _) _ _ _; refine Al ?_; intro Q1) | (show AW _ _ (.exit _) _ _ _; refine Av ?_; first | show AW _ _ _ _ _ _ | show ∃ x', _ < _ ∧ _) | (show AW _ _ (.ret) _ _ _; refine Au ?_; try dsimp only [Az, Ab, A4, Af])
    | (show DL _ _ _ _ _ _ _; refine Bq Y Y (fun K kt kf => Ak hG Y Y Y Y Y kt kf) (fun h => ?_) (fun h => ?_))
    | (show DL _ _ _ _ _ _ _; refine Br Y Y Y ?_) | (show DL _ _ _ _ _ _ _; refine A9 ?_; first | show AW _ _ _ _ _ _ | show ∃ x', _ < _ ∧ _) | (show AW _ _ (.region _ _ true) _ _ _; refine Aq mix (by kernel_rfl) ?_; intro O1) | fail)
    refine ret_row 0 Bj ?_ (.refl _) ?_ <;> rfl
  by_cases h0 : lim = 0
  · rw [pdq_heap h12 h0] at e
    have h := srt_heap (d0 := d) (a := a) (b := b) (by omega) (by omega) (by omega)
    rw [e] at h
    repeat' (first
    | ((first | (show AL _ _ _ _ _ _ _ _; refine Ae Y ?_) | (show DL _ _ _ _ _ _ _; refine' Aw Y Y (fun K kk => ?_) ?_; try (show Go.Ts.T; rotate_left))); (first
      | (show AOp _ _ ⟨_, .move _, _, _, _, _⟩ _ _ _; refine Ar hG Y Y ?_)
      | (show AOp _ _ ⟨_, .assign _, _, _, _, _⟩ _ _ _; refine A2 hG Y Y ?_)
      | (show AOp _ _ ⟨_, .binOp .add _ _ _ _, _, _, _, _⟩ _ _ _; first | refine Ad hG Y Y Y Y Y (by omega) ?_ | refine Ad (m := 1) hG Y Y Y Y Y (by omega) ?_ | refine Aa hG Y Y Y Y Y (by omega) ?_)
      | (show AOp _ _ ⟨_, .binOp .sub _ _ _ _, _, _, _, _⟩ _ _ _; first | refine Ah hG Y Y Y Y (by omega) ?_ | refine Ah (m := 1) hG Y Y Y Y (by omega) ?_ | refine Aa hG Y Y Y Y Y (by omega) ?_)
      | (show AOp _ _ ⟨_, .binOp .quo _ _ _ _, _, _, _, _⟩ _ _ _; first | refine Bf (m := 2) hG Y Y Y Y (by omega) ?_ | refine Bf (m := 4) hG Y Y Y Y (by omega) ?_ | refine Bf (m := 8) hG Y Y Y Y (by omega) ?_)
      | (show AOp _ _ ⟨_, .binOp _ _ _ _ _, _, _, _, _⟩ _ _ _; first | refine Ax hG Y Y Y Y Y (by omega) ?_ | refine Ay hG Y Y Y Y Y (by omega) ?_ | ((fail_if_success have := kk); refine Ak hG Y Y Y Y Y (fun h => ?_) (fun h => ?_)) | refine Bx hG Y Y Y ?_)
      | (show AOp _ _ ⟨_, .load _ _, _, _, _, _⟩ _ _ _; first | refine A5 (α := UInt16) 0 hG Y Y Y Y (by omega) Y ?_ | refine A8 hG Y Y Y ?_ | refine Bn 0 hG Y Y Y Y ?_)
      | (show AOp _ _ ⟨_, .indexAddr _ _ _, _, _, _, _⟩ _ _ _; first | refine Bb hG Y Y Y Y Y Y Y (by omega) ?_ | refine A6 hG Y Y Y Y Y Y Y (by omega) ?_ | refine A7 hG Y Y Y Y Y Y Y (by omega) ?_ | refine Bg hG Y Y ?_)
      | (show AOp _ _ ⟨_, .pick _ _ _, _, _, _, _⟩ _ _ _; refine Ba hG Y Y Y ?_)
      | (show AOp _ _ ⟨_, .unOp _ _ _, _, _, _, _⟩ _ _ _; refine Bm hG Y Y Y ?_)
      | (show AOp _ _ ⟨_, .call ⟨.value _, _, _⟩, _, _, _, _⟩ _ _ _; first | refine r_row Y Y Y Y Y (List.Perm.refl _) h (by assumption) ?_ | fail)
      | refine r_q hG Y Y Y ?_); try exact kk)
    | (show AL _ _ _ _ _ _ _ _; first | refine Bk Y Y Y ?_ | (refine As ?_; first | show AW _ _ _ _ _ _ | show ∃ x', _ < _ ∧ _)) | (show AW _ _ (.seq _ _) _ _ _; refine Ag ?_; intro Q1) | (show AW _ _ (.region _ _ false) _ _ _; refine Ac ?_; intro O1) | (show AW _ _ (.cond _ _ _) _ _ _; first | refine Ao Y ?_ | refine Ap Y ?_ | refine Bo Y (fun h => ?_) (fun h => ?_)) | (show AW _ _ (.skip) _ _ _; refine Aj ?_; first | show AW _ _ _ _ _ _ | show ∃ x', _ < _ ∧ _) | (show AW _ _ (.block _ _) _ _ _; refine Al ?_; intro Q1) | (show AW _ _ (.exit _) _ _ _; refine Av ?_; first | show AW _ _ _ _ _ _ | show ∃ x', _ < _ ∧ _) | (show AW _ _ (.ret) _ _ _; refine Au ?_; try dsimp only [Az, Ab, A4, Af])
    | (show DL _ _ _ _ _ _ _; refine Bq Y Y (fun K kt kf => Ak hG Y Y Y Y Y kt kf) (fun h => ?_) (fun h => ?_))
    | (show DL _ _ _ _ _ _ _; refine Br Y Y Y ?_) | (show DL _ _ _ _ _ _ _; refine A9 ?_; first | show AW _ _ _ _ _ _ | show ∃ x', _ < _ ∧ _) | (show AW _ _ (.region _ _ true) _ _ _; refine Aq mix (by kernel_rfl) ?_; intro O1) | fail)
    refine ret_row 0 Bj ?_ (.refl _) ?_ <;> rfl
  have F := rd_facts (wb := wb) (wp := wp) (limit := lim) ltH_swo partialInsertionSort_holds reverseRange_holds (show a < b by omega) (show b ≤ d.size by omega) hB
  obtain ⟨D, hD⟩ : ∃ D, rd ltH d a b lim wb wp = D := ⟨_, rfl⟩
  rw [hD] at F
  obtain ⟨s1, B1, c1, s2, B2, pv, s3, B3⟩ := F
  have hlim : D.lim < 256 := by rw [← hD]; exact Nat.lt_of_le_of_lt rd_lim_le hl
  repeat' (first
    | ((first | (show AL _ _ _ _ _ _ _ _; refine Ae Y ?_) | (show DL _ _ _ _ _ _ _; refine' Aw Y Y (fun K kk => ?_) ?_; try (show Go.Ts.T; rotate_left))); (first
      | (show AOp _ _ ⟨_, .move _, _, _, _, _⟩ _ _ _; refine Ar hG Y Y ?_)
      | (show AOp _ _ ⟨_, .assign _, _, _, _, _⟩ _ _ _; refine A2 hG Y Y ?_)
      | (show AOp _ _ ⟨_, .binOp .add _ _ _ _, _, _, _, _⟩ _ _ _; first | refine Ad hG Y Y Y Y Y (by omega) ?_ | refine Ad (m := 1) hG Y Y Y Y Y (by omega) ?_ | refine Aa hG Y Y Y Y Y (by omega) ?_)
      | (show AOp _ _ ⟨_, .binOp .sub _ _ _ _, _, _, _, _⟩ _ _ _; first | refine Ah hG Y Y Y Y (by omega) ?_ | refine Ah (m := 1) hG Y Y Y Y (by omega) ?_ | refine Aa hG Y Y Y Y Y (by omega) ?_)
      | (show AOp _ _ ⟨_, .binOp .quo _ _ _ _, _, _, _, _⟩ _ _ _; first | refine Bf (m := 2) hG Y Y Y Y (by omega) ?_ | refine Bf (m := 4) hG Y Y Y Y (by omega) ?_ | refine Bf (m := 8) hG Y Y Y Y (by omega) ?_)
      | (show AOp _ _ ⟨_, .binOp _ _ _ _ _, _, _, _, _⟩ _ _ _; first | refine Ax hG Y Y Y Y Y (by omega) ?_ | refine Ay hG Y Y Y Y Y (by omega) ?_ | ((fail_if_success have := kk); refine Ak hG Y Y Y Y Y (fun h => ?_) (fun h => ?_)) | refine Bx hG Y Y Y ?_)
      | (show AOp _ _ ⟨_, .load _ _, _, _, _, _⟩ _ _ _; first | refine A5 (α := UInt16) 0 hG Y Y Y Y (by omega) Y ?_ | refine A8 hG Y Y Y ?_ | refine Bn 0 hG Y Y Y Y ?_)
      | (show AOp _ _ ⟨_, .indexAddr _ _ _, _, _, _, _⟩ _ _ _; first | refine Bb hG Y Y Y Y Y Y Y (by omega) ?_ | refine A6 hG Y Y Y Y Y Y Y (by omega) ?_ | refine A7 hG Y Y Y Y Y Y Y (by omega) ?_ | refine Bg hG Y Y ?_)
      | (show AOp _ _ ⟨_, .pick _ _ _, _, _, _, _⟩ _ _ _; refine Ba hG Y Y Y ?_)
      | (show AOp _ _ ⟨_, .unOp _ _ _, _, _, _, _⟩ _ _ _; refine Bm hG Y Y Y ?_)
      | refine r_q hG Y Y Y ?_); try exact kk)
    | (show AL _ _ _ _ _ _ _ _; first | refine Bk Y Y Y ?_ | (refine As ?_; first | show AW _ _ _ _ _ _ | show ∃ x', _ < _ ∧ _)) | (show AW _ _ (.seq _ _) _ _ _; refine Ag ?_; intro Q1) | (show AW _ _ (.region _ _ false) _ _ _; (fail_if_success show AW _ _ (.region 7 _ _) _ _ _); refine Ac ?_; intro O1) | (show AW _ _ (.cond _ _ _) _ _ _; first | refine Ao Y ?_ | refine Ap Y ?_ | refine Bo Y (fun h => ?_) (fun h => ?_)) | (show AW _ _ (.skip) _ _ _; refine Aj ?_; first | show AW _ _ _ _ _ _ | show ∃ x', _ < _ ∧ _) | (show AW _ _ (.block _ _) _ _ _; refine Al ?_; intro Q1) | (show AW _ _ (.exit _) _ _ _; refine Av ?_; first | show AW _ _ _ _ _ _ | show ∃ x', _ < _ ∧ _) | (show AW _ _ (.ret) _ _ _; refine Au ?_; try dsimp only [Az, Ab, A4, Af])
    | (show DL _ _ _ _ _ _ _; refine Bq Y Y (fun K kt kf => Ak hG Y Y Y Y Y kt kf) (fun h => ?_) (fun h => ?_))
    | (show DL _ _ _ _ _ _ _; refine Br Y Y Y ?_) | (show DL _ _ _ _ _ _ _; refine A9 ?_; first | show AW _ _ _ _ _ _ | show ∃ x', _ < _ ∧ _) | (show AW _ _ (.region _ _ true) _ _ _; (fail_if_success show AW _ _ (.region 7 _ _) _ _ _); refine Aq mix (by kernel_rfl) ?_; intro O1) | fail)
  refine aw_to2 [(0, .aref 1 i 0 n cap), (1, .int .i64 (a : Int)), (2, .int .i64 (b : Int)), (3, .int .i64 (D.lim : Int)), (8, .bool wb), (9, .bool wp), (10, .int .i64 ((b - a : Nat) : Int))] ⟨[(i, .cells (rowT hT D.d1))], [], off, none⟩ ?_ ?_
  · have h := srt_brk (d0 := d) (a := a) (b := b) (by omega) (by omega) (by omega)
    rw [← hD]
    cases wb with
    | false =>
      rw [rd_false.1, rd_false.2]
      repeat' (first
    | ((first | (show AL _ _ _ _ _ _ _ _; refine Ae Y ?_) | (show DL _ _ _ _ _ _ _; refine' Aw Y Y (fun K kk => ?_) ?_; try (show Go.Ts.T; rotate_left))); (first
      | (show AOp _ _ ⟨_, .move _, _, _, _, _⟩ _ _ _; refine Ar hG Y Y ?_)
      | (show AOp _ _ ⟨_, .assign _, _, _, _, _⟩ _ _ _; refine A2 hG Y Y ?_)
      | (show AOp _ _ ⟨_, .binOp .add _ _ _ _, _, _, _, _⟩ _ _ _; first | refine Ad hG Y Y Y Y Y (by omega) ?_ | refine Ad (m := 1) hG Y Y Y Y Y (by omega) ?_ | refine Aa hG Y Y Y Y Y (by omega) ?_)
      | (show AOp _ _ ⟨_, .binOp .sub _ _ _ _, _, _, _, _⟩ _ _ _; first | refine Ah hG Y Y Y Y (by omega) ?_ | refine Ah (m := 1) hG Y Y Y Y (by omega) ?_ | refine Aa hG Y Y Y Y Y (by omega) ?_)
      | (show AOp _ _ ⟨_, .binOp .quo _ _ _ _, _, _, _, _⟩ _ _ _; first | refine Bf (m := 2) hG Y Y Y Y (by omega) ?_ | refine Bf (m := 4) hG Y Y Y Y (by omega) ?_ | refine Bf (m := 8) hG Y Y Y Y (by omega) ?_)
      | (show AOp _ _ ⟨_, .binOp _ _ _ _ _, _, _, _, _⟩ _ _ _; first | refine Ax hG Y Y Y Y Y (by omega) ?_ | refine Ay hG Y Y Y Y Y (by omega) ?_ | ((fail_if_success have := kk); refine Ak hG Y Y Y Y Y (fun h => ?_) (fun h => ?_)) | refine Bx hG Y Y Y ?_)
      | (show AOp _ _ ⟨_, .load _ _, _, _, _, _⟩ _ _ _; first | refine A5 (α := UInt16) 0 hG Y Y Y Y (by omega) Y ?_ | refine A8 hG Y Y Y ?_ | refine Bn 0 hG Y Y Y Y ?_)
      | (show AOp _ _ ⟨_, .indexAddr _ _ _, _, _, _, _⟩ _ _ _; first | refine Bb hG Y Y Y Y Y Y Y (by omega) ?_ | refine A6 hG Y Y Y Y Y Y Y (by omega) ?_ | refine A7 hG Y Y Y Y Y Y Y (by omega) ?_ | refine Bg hG Y Y ?_)
      | (show AOp _ _ ⟨_, .pick _ _ _, _, _, _, _⟩ _ _ _; refine Ba hG Y Y Y ?_)
      | (show AOp _ _ ⟨_, .unOp _ _ _, _, _, _, _⟩ _ _ _; refine Bm hG Y Y Y ?_)
      | (show AOp _ _ ⟨_, .call ⟨.value _, _, _⟩, _, _, _, _⟩ _ _ _; first | refine r_row Y Y Y Y Y (List.Perm.refl _) h (by assumption) ?_ | fail)
      | refine r_q hG Y Y Y ?_); try exact kk)
    | (show AL _ _ _ _ _ _ _ _; first | refine Bk Y Y Y ?_ | (refine As ?_; first | show AW _ _ _ _ _ _ | show ∃ x', _ < _ ∧ _)) | (show AW _ _ (.seq _ _) _ _ _; refine Ag ?_; intro Q1) | (show AW _ _ (.region _ _ false) _ _ _; refine Ac ?_; intro O1) | (show AW _ _ (.cond _ _ _) _ _ _; first | refine Ao Y ?_ | refine Ap Y ?_ | refine Bo Y (fun h => ?_) (fun h => ?_)) | (show AW _ _ (.skip) _ _ _; refine Aj ?_; first | show AW _ _ _ _ _ _ | show ∃ x', _ < _ ∧ _) | (show AW _ _ (.block _ _) _ _ _; refine Al ?_; intro Q1) | (show AW _ _ (.exit _) _ _ _; refine Av ?_; first | show AW _ _ _ _ _ _ | show ∃ x', _ < _ ∧ _) | (show AW _ _ (.ret) _ _ _; refine Au ?_; try dsimp only [Az, Ab, A4, Af])
    | (show DL _ _ _ _ _ _ _; refine Bq Y Y (fun K kt kf => Ak hG Y Y Y Y Y kt kf) (fun h => ?_) (fun h => ?_))
    | (show DL _ _ _ _ _ _ _; refine Br Y Y Y ?_) | (show DL _ _ _ _ _ _ _; refine A9 ?_; first | show AW _ _ _ _ _ _ | show ∃ x', _ < _ ∧ _) | (show AW _ _ (.region _ _ true) _ _ _; refine Aq mix (by kernel_rfl) ?_; intro O1) | fail)
      (first | refine As ?_ | refine Aj ?_); exact ⟨rfl, (by repeat (first | exact .nil _ | refine .cons rfl ?_)), rfl⟩
    | true =>
      rw [rd_true.1, rd_true.2]
      repeat' (first
    | ((first | (show AL _ _ _ _ _ _ _ _; refine Ae Y ?_) | (show DL _ _ _ _ _ _ _; refine' Aw Y Y (fun K kk => ?_) ?_; try (show Go.Ts.T; rotate_left))); (first
      | (show AOp _ _ ⟨_, .move _, _, _, _, _⟩ _ _ _; refine Ar hG Y Y ?_)
      | (show AOp _ _ ⟨_, .assign _, _, _, _, _⟩ _ _ _; refine A2 hG Y Y ?_)
      | (show AOp _ _ ⟨_, .binOp .add _ _ _ _, _, _, _, _⟩ _ _ _; first | refine Ad hG Y Y Y Y Y (by omega) ?_ | refine Ad (m := 1) hG Y Y Y Y Y (by omega) ?_ | refine Aa hG Y Y Y Y Y (by omega) ?_)
      | (show AOp _ _ ⟨_, .binOp .sub _ _ _ _, _, _, _, _⟩ _ _ _; first | refine Ah hG Y Y Y Y (by omega) ?_ | refine Ah (m := 1) hG Y Y Y Y (by omega) ?_ | refine Aa hG Y Y Y Y Y (by omega) ?_)
      | (show AOp _ _ ⟨_, .binOp .quo _ _ _ _, _, _, _, _⟩ _ _ _; first | refine Bf (m := 2) hG Y Y Y Y (by omega) ?_ | refine Bf (m := 4) hG Y Y Y Y (by omega) ?_ | refine Bf (m := 8) hG Y Y Y Y (by omega) ?_)
      | (show AOp _ _ ⟨_, .binOp _ _ _ _ _, _, _, _, _⟩ _ _ _; first | refine Ax hG Y Y Y Y Y (by omega) ?_ | refine Ay hG Y Y Y Y Y (by omega) ?_ | ((fail_if_success have := kk); refine Ak hG Y Y Y Y Y (fun h => ?_) (fun h => ?_)) | refine Bx hG Y Y Y ?_)
      | (show AOp _ _ ⟨_, .load _ _, _, _, _, _⟩ _ _ _; first | refine A5 (α := UInt16) 0 hG Y Y Y Y (by omega) Y ?_ | refine A8 hG Y Y Y ?_ | refine Bn 0 hG Y Y Y Y ?_)
      | (show AOp _ _ ⟨_, .indexAddr _ _ _, _, _, _, _⟩ _ _ _; first | refine Bb hG Y Y Y Y Y Y Y (by omega) ?_ | refine A6 hG Y Y Y Y Y Y Y (by omega) ?_ | refine A7 hG Y Y Y Y Y Y Y (by omega) ?_ | refine Bg hG Y Y ?_)
      | (show AOp _ _ ⟨_, .pick _ _ _, _, _, _, _⟩ _ _ _; refine Ba hG Y Y Y ?_)
      | (show AOp _ _ ⟨_, .unOp _ _ _, _, _, _, _⟩ _ _ _; refine Bm hG Y Y Y ?_)
      | refine r_q hG Y Y Y ?_); try exact kk)
    | (show AL _ _ _ _ _ _ _ _; first | refine Bk Y Y Y ?_ | (refine As ?_; first | show AW _ _ _ _ _ _ | show ∃ x', _ < _ ∧ _)) | (show AW _ _ (.seq _ _) _ _ _; refine Ag ?_; intro Q1) | (show AW _ _ (.region _ _ false) _ _ _; refine Ac ?_; intro O1) | (show AW _ _ (.cond _ _ _) _ _ _; first | refine Ao Y ?_ | refine Ap Y ?_ | refine Bo Y (fun h => ?_) (fun h => ?_)) | (show AW _ _ (.skip) _ _ _; refine Aj ?_; first | show AW _ _ _ _ _ _ | show ∃ x', _ < _ ∧ _) | (show AW _ _ (.block _ _) _ _ _; refine Al ?_; intro Q1) | (show AW _ _ (.exit _) _ _ _; refine Av ?_; first | show AW _ _ _ _ _ _ | show ∃ x', _ < _ ∧ _) | (show AW _ _ (.ret) _ _ _; refine Au ?_; try dsimp only [Az, Ab, A4, Af])
    | (show DL _ _ _ _ _ _ _; refine Bq Y Y (fun K kt kf => Ak hG Y Y Y Y Y kt kf) (fun h => ?_) (fun h => ?_))
    | (show DL _ _ _ _ _ _ _; refine Br Y Y Y ?_) | (show DL _ _ _ _ _ _ _; refine A9 ?_; first | show AW _ _ _ _ _ _ | show ∃ x', _ < _ ∧ _) | (show AW _ _ (.region _ _ true) _ _ _; refine Aq mix (by kernel_rfl) ?_; intro O1) | fail)
      (first | refine As ?_ | refine Aj ?_); exact ⟨rfl, (by repeat (first | exact .nil _ | refine .cons rfl ?_)), rfl⟩
  intro a' hk
  dsimp (config := { zetaDelta := true }) only [Az, Ab]
  refine aw_forget hk ?_
  have n1 : D.d1.size = n := by omega
  have n2 : D.d2.size = n := by omega
  have n3 : D.pi.1.size = n := by omega
  have hpiv := srt_piv (c := D.d1) (a := a) (b := b) (by omega) (by omega) (by omega)
  rw [show choosePivot ltH D.d1 a b = D.c by rw [← hD]; rfl] at hpiv
  repeat' (first
    | ((first | (show AL _ _ _ _ _ _ _ _; refine Ae Y ?_) | (show DL _ _ _ _ _ _ _; refine' Aw Y Y (fun K kk => ?_) ?_; try (show Go.Ts.T; rotate_left))); (first
      | (show AOp _ _ ⟨_, .move _, _, _, _, _⟩ _ _ _; refine Ar hG Y Y ?_)
      | (show AOp _ _ ⟨_, .assign _, _, _, _, _⟩ _ _ _; refine A2 hG Y Y ?_)
      | (show AOp _ _ ⟨_, .binOp .add _ _ _ _, _, _, _, _⟩ _ _ _; first | refine Ad hG Y Y Y Y Y (by omega) ?_ | refine Ad (m := 1) hG Y Y Y Y Y (by omega) ?_ | refine Aa hG Y Y Y Y Y (by omega) ?_)
      | (show AOp _ _ ⟨_, .binOp .sub _ _ _ _, _, _, _, _⟩ _ _ _; first | refine Ah hG Y Y Y Y (by omega) ?_ | refine Ah (m := 1) hG Y Y Y Y (by omega) ?_ | refine Aa hG Y Y Y Y Y (by omega) ?_)
      | (show AOp _ _ ⟨_, .binOp .quo _ _ _ _, _, _, _, _⟩ _ _ _; first | refine Bf (m := 2) hG Y Y Y Y (by omega) ?_ | refine Bf (m := 4) hG Y Y Y Y (by omega) ?_ | refine Bf (m := 8) hG Y Y Y Y (by omega) ?_)
      | (show AOp _ _ ⟨_, .binOp _ _ _ _ _, _, _, _, _⟩ _ _ _; first | refine Ax hG Y Y Y Y Y (by omega) ?_ | refine Ay hG Y Y Y Y Y (by omega) ?_ | ((fail_if_success have := kk); refine Ak hG Y Y Y Y Y (fun h => ?_) (fun h => ?_)) | refine Bx hG Y Y Y ?_)
      | (show AOp _ _ ⟨_, .load _ _, _, _, _, _⟩ _ _ _; first | refine A5 (α := UInt16) 0 hG Y Y Y Y (by omega) Y ?_ | refine A8 hG Y Y Y ?_ | refine Bn 0 hG Y Y Y Y ?_)
      | (show AOp _ _ ⟨_, .indexAddr _ _ _, _, _, _, _⟩ _ _ _; first | refine Bb hG Y Y Y Y Y Y Y (by omega) ?_ | refine A6 hG Y Y Y Y Y Y Y (by omega) ?_ | refine A7 hG Y Y Y Y Y Y Y (by omega) ?_ | refine Bg hG Y Y ?_)
      | (show AOp _ _ ⟨_, .pick _ _ _, _, _, _, _⟩ _ _ _; refine Ba hG Y Y Y ?_)
      | (show AOp _ _ ⟨_, .unOp _ _ _, _, _, _, _⟩ _ _ _; refine Bm hG Y Y Y ?_)
      | (show AOp _ _ ⟨_, .call ⟨.value _, _, _⟩, _, _, _, _⟩ _ _ _; first | refine r_row Y Y Y Y Y (List.Perm.refl _) hpiv (by assumption) ?_ | fail)
      | refine r_q hG Y Y Y ?_); try exact kk)
    | (show AL _ _ _ _ _ _ _ _; first | refine Bk Y Y Y ?_ | (refine As ?_; first | show AW _ _ _ _ _ _ | show ∃ x', _ < _ ∧ _)) | (show AW _ _ (.seq _ _) _ _ _; refine Ag ?_; intro Q1) | (show AW _ _ (.region _ _ false) _ _ _; (fail_if_success show AW _ _ (.region 11 _ _) _ _ _); refine Ac ?_; intro O1) | (show AW _ _ (.cond _ _ _) _ _ _; first | refine Ao Y ?_ | refine Ap Y ?_ | refine Bo Y (fun h => ?_) (fun h => ?_)) | (show AW _ _ (.skip) _ _ _; refine Aj ?_; first | show AW _ _ _ _ _ _ | show ∃ x', _ < _ ∧ _) | (show AW _ _ (.block _ _) _ _ _; refine Al ?_; intro Q1) | (show AW _ _ (.exit _) _ _ _; refine Av ?_; first | show AW _ _ _ _ _ _ | show ∃ x', _ < _ ∧ _) | (show AW _ _ (.ret) _ _ _; refine Au ?_; try dsimp only [Az, Ab, A4, Af])
    | (show DL _ _ _ _ _ _ _; refine Bq Y Y (fun K kt kf => Ak hG Y Y Y Y Y kt kf) (fun h => ?_) (fun h => ?_))
    | (show DL _ _ _ _ _ _ _; refine Br Y Y Y ?_) | (show DL _ _ _ _ _ _ _; refine A9 ?_; first | show AW _ _ _ _ _ _ | show ∃ x', _ < _ ∧ _) | (show AW _ _ (.region _ _ true) _ _ _; (fail_if_success show AW _ _ (.region 11 _ _) _ _ _); refine Aq mix (by kernel_rfl) ?_; intro O1) | fail)
  refine aw_to2 [(0, .aref 1 i 0 n cap), (1, .int .i64 (a : Int)), (2, .int .i64 (b : Int)), (3, .int .i64 (D.lim : Int)), (8, .bool wb), (9, .bool wp), (10, .int .i64 ((b - a : Nat) : Int)), (11, .int .i64 (D.pivot : Int)), (12, .int .i64 (hintCode D.hint))] ⟨[(i, .cells (rowT hT D.d2))], [], off, none⟩ ?_ ?_
  · by_cases hh : D.c.2 = .decreasing
    · have hr := srt_rev (d0 := D.d1) (a := a) (b := b) (by omega) (by omega) (by omega)
      have q : D.d2 = reverseRange D.d1 a b ∧ D.pivot = (b - 1) - (D.c.1 - a) ∧ D.hint = .increasing := by rw [← hD] at hh ⊢; exact rd_dec hh
      rw [q.1, q.2.1, q.2.2]
      have hc : hintCode D.c.2 = 2 := by rw [hh]; rfl
      rw [hc]
      repeat' (first
    | ((first | (show AL _ _ _ _ _ _ _ _; refine Ae Y ?_) | (show DL _ _ _ _ _ _ _; refine' Aw Y Y (fun K kk => ?_) ?_; try (show Go.Ts.T; rotate_left))); (first
      | (show AOp _ _ ⟨_, .move _, _, _, _, _⟩ _ _ _; refine Ar hG Y Y ?_)
      | (show AOp _ _ ⟨_, .assign _, _, _, _, _⟩ _ _ _; refine A2 hG Y Y ?_)
      | (show AOp _ _ ⟨_, .binOp .add _ _ _ _, _, _, _, _⟩ _ _ _; first | refine Ad hG Y Y Y Y Y (by omega) ?_ | refine Ad (m := 1) hG Y Y Y Y Y (by omega) ?_ | refine Aa hG Y Y Y Y Y (by omega) ?_)
      | (show AOp _ _ ⟨_, .binOp .sub _ _ _ _, _, _, _, _⟩ _ _ _; first | refine Ah hG Y Y Y Y (by omega) ?_ | refine Ah (m := 1) hG Y Y Y Y (by omega) ?_ | refine Aa hG Y Y Y Y Y (by omega) ?_)
      | (show AOp _ _ ⟨_, .binOp .quo _ _ _ _, _, _, _, _⟩ _ _ _; first | refine Bf (m := 2) hG Y Y Y Y (by omega) ?_ | refine Bf (m := 4) hG Y Y Y Y (by omega) ?_ | refine Bf (m := 8) hG Y Y Y Y (by omega) ?_)
      | (show AOp _ _ ⟨_, .binOp _ _ _ _ _, _, _, _, _⟩ _ _ _; first | refine Ax hG Y Y Y Y Y (by omega) ?_ | refine Ay hG Y Y Y Y Y (by omega) ?_ | ((fail_if_success have := kk); refine Ak hG Y Y Y Y Y (fun h => ?_) (fun h => ?_)) | refine Bx hG Y Y Y ?_)
      | (show AOp _ _ ⟨_, .load _ _, _, _, _, _⟩ _ _ _; first | refine A5 (α := UInt16) 0 hG Y Y Y Y (by omega) Y ?_ | refine A8 hG Y Y Y ?_ | refine Bn 0 hG Y Y Y Y ?_)
      | (show AOp _ _ ⟨_, .indexAddr _ _ _, _, _, _, _⟩ _ _ _; first | refine Bb hG Y Y Y Y Y Y Y (by omega) ?_ | refine A6 hG Y Y Y Y Y Y Y (by omega) ?_ | refine A7 hG Y Y Y Y Y Y Y (by omega) ?_ | refine Bg hG Y Y ?_)
      | (show AOp _ _ ⟨_, .pick _ _ _, _, _, _, _⟩ _ _ _; refine Ba hG Y Y Y ?_)
      | (show AOp _ _ ⟨_, .unOp _ _ _, _, _, _, _⟩ _ _ _; refine Bm hG Y Y Y ?_)
      | (show AOp _ _ ⟨_, .call ⟨.value _, _, _⟩, _, _, _, _⟩ _ _ _; first | refine r_row Y Y Y Y Y (List.Perm.refl _) hr (by assumption) ?_ | fail)
      | refine r_q hG Y Y Y ?_); try exact kk)
    | (show AL _ _ _ _ _ _ _ _; first | refine Bk Y Y Y ?_ | (refine As ?_; first | show AW _ _ _ _ _ _ | show ∃ x', _ < _ ∧ _)) | (show AW _ _ (.seq _ _) _ _ _; refine Ag ?_; intro Q1) | (show AW _ _ (.region _ _ false) _ _ _; refine Ac ?_; intro O1) | (show AW _ _ (.cond _ _ _) _ _ _; first | refine Ao Y ?_ | refine Ap Y ?_ | refine Bo Y (fun h => ?_) (fun h => ?_)) | (show AW _ _ (.skip) _ _ _; refine Aj ?_; first | show AW _ _ _ _ _ _ | show ∃ x', _ < _ ∧ _) | (show AW _ _ (.block _ _) _ _ _; refine Al ?_; intro Q1) | (show AW _ _ (.exit _) _ _ _; refine Av ?_; first | show AW _ _ _ _ _ _ | show ∃ x', _ < _ ∧ _) | (show AW _ _ (.ret) _ _ _; refine Au ?_; try dsimp only [Az, Ab, A4, Af])
    | (show DL _ _ _ _ _ _ _; refine Bq Y Y (fun K kt kf => Ak hG Y Y Y Y Y kt kf) (fun h => ?_) (fun h => ?_))
    | (show DL _ _ _ _ _ _ _; refine Br Y Y Y ?_) | (show DL _ _ _ _ _ _ _; refine A9 ?_; first | show AW _ _ _ _ _ _ | show ∃ x', _ < _ ∧ _) | (show AW _ _ (.region _ _ true) _ _ _; refine Aq mix (by kernel_rfl) ?_; intro O1) | fail)
      (first | refine As ?_ | refine Aj ?_); exact ⟨rfl, (by repeat (first | exact .nil _ | refine .cons rfl ?_)), rfl⟩
    · have q : D.d2 = D.d1 ∧ D.pivot = D.c.1 ∧ D.hint = D.c.2 := by rw [← hD] at hh ⊢; exact rd_not hh
      rw [q.1, q.2.1, q.2.2]
      have hc : hintCode D.c.2 ≠ 2 := by cases h : D.c.2 <;> simp_all [hintCode]
      repeat' (first
    | ((first | (show AL _ _ _ _ _ _ _ _; refine Ae Y ?_) | (show DL _ _ _ _ _ _ _; refine' Aw Y Y (fun K kk => ?_) ?_; try (show Go.Ts.T; rotate_left))); (first
      | (show AOp _ _ ⟨_, .move _, _, _, _, _⟩ _ _ _; refine Ar hG Y Y ?_)
      | (show AOp _ _ ⟨_, .assign _, _, _, _, _⟩ _ _ _; refine A2 hG Y Y ?_)
      | (show AOp _ _ ⟨_, .binOp .add _ _ _ _, _, _, _, _⟩ _ _ _; first | refine Ad hG Y Y Y Y Y (by omega) ?_ | refine Ad (m := 1) hG Y Y Y Y Y (by omega) ?_ | refine Aa hG Y Y Y Y Y (by omega) ?_)
      | (show AOp _ _ ⟨_, .binOp .sub _ _ _ _, _, _, _, _⟩ _ _ _; first | refine Ah hG Y Y Y Y (by omega) ?_ | refine Ah (m := 1) hG Y Y Y Y (by omega) ?_ | refine Aa hG Y Y Y Y Y (by omega) ?_)
      | (show AOp _ _ ⟨_, .binOp .quo _ _ _ _, _, _, _, _⟩ _ _ _; first | refine Bf (m := 2) hG Y Y Y Y (by omega) ?_ | refine Bf (m := 4) hG Y Y Y Y (by omega) ?_ | refine Bf (m := 8) hG Y Y Y Y (by omega) ?_)
      | (show AOp _ _ ⟨_, .binOp _ _ _ _ _, _, _, _, _⟩ _ _ _; first | refine Ax hG Y Y Y Y Y (by omega) ?_ | refine Ay hG Y Y Y Y Y (by omega) ?_ | ((fail_if_success have := kk); refine Ak hG Y Y Y Y Y (fun h => ?_) (fun h => ?_)) | refine Bx hG Y Y Y ?_)
      | (show AOp _ _ ⟨_, .load _ _, _, _, _, _⟩ _ _ _; first | refine A5 (α := UInt16) 0 hG Y Y Y Y (by omega) Y ?_ | refine A8 hG Y Y Y ?_ | refine Bn 0 hG Y Y Y Y ?_)
      | (show AOp _ _ ⟨_, .indexAddr _ _ _, _, _, _, _⟩ _ _ _; first | refine Bb hG Y Y Y Y Y Y Y (by omega) ?_ | refine A6 hG Y Y Y Y Y Y Y (by omega) ?_ | refine A7 hG Y Y Y Y Y Y Y (by omega) ?_ | refine Bg hG Y Y ?_)
      | (show AOp _ _ ⟨_, .pick _ _ _, _, _, _, _⟩ _ _ _; refine Ba hG Y Y Y ?_)
      | (show AOp _ _ ⟨_, .unOp _ _ _, _, _, _, _⟩ _ _ _; refine Bm hG Y Y Y ?_)
      | refine r_q hG Y Y Y ?_); try exact kk)
    | (show AL _ _ _ _ _ _ _ _; first | refine Bk Y Y Y ?_ | (refine As ?_; first | show AW _ _ _ _ _ _ | show ∃ x', _ < _ ∧ _)) | (show AW _ _ (.seq _ _) _ _ _; refine Ag ?_; intro Q1) | (show AW _ _ (.region _ _ false) _ _ _; refine Ac ?_; intro O1) | (show AW _ _ (.cond _ _ _) _ _ _; first | refine Ao Y ?_ | refine Ap Y ?_ | refine Bo Y (fun h => ?_) (fun h => ?_)) | (show AW _ _ (.skip) _ _ _; refine Aj ?_; first | show AW _ _ _ _ _ _ | show ∃ x', _ < _ ∧ _) | (show AW _ _ (.block _ _) _ _ _; refine Al ?_; intro Q1) | (show AW _ _ (.exit _) _ _ _; refine Av ?_; first | show AW _ _ _ _ _ _ | show ∃ x', _ < _ ∧ _) | (show AW _ _ (.ret) _ _ _; refine Au ?_; try dsimp only [Az, Ab, A4, Af])
    | (show DL _ _ _ _ _ _ _; refine Bq Y Y (fun K kt kf => Ak hG Y Y Y Y Y kt kf) (fun h => ?_) (fun h => ?_))
    | (show DL _ _ _ _ _ _ _; refine Br Y Y Y ?_) | (show DL _ _ _ _ _ _ _; refine A9 ?_; first | show AW _ _ _ _ _ _ | show ∃ x', _ < _ ∧ _) | (show AW _ _ (.region _ _ true) _ _ _; refine Aq mix (by kernel_rfl) ?_; intro O1) | fail)
      (first | refine As ?_ | refine Aj ?_); exact ⟨rfl, (by repeat (first | exact .nil _ | refine .cons rfl ?_)), rfl⟩
  intro a' hk
  dsimp (config := { zetaDelta := true }) only [Az, Ab]
  refine aw_forget hk ?_
  have hpins := srt_pins (d0 := D.d2) (a := a) (b := b) (by omega) (by omega) (by omega)
  have hpy : (wb && wp && decide (D.hint = .increasing)) = true → D.pi = partialInsertionSort ltH D.d2 a b := fun hc => by rw [← hD] at hc ⊢; exact rd_pi_yes hc
  have hpn : (wb && wp && decide (D.hint = .increasing)) = false → D.pi = (D.d2, false) := fun hc => by rw [← hD] at hc ⊢; exact rd_pi_no hc
  by_cases hp2 : D.pi.2 = true
  · have hc : (wb && wp && decide (D.hint = .increasing)) = true := by
      cases hc : (wb && wp && decide (D.hint = .increasing)) with
      | true => rfl
      | false => rw [hpn hc] at hp2; cases hp2
    rw [← hpy hc, hp2] at hpins
    rw [pdq_done h12 h0 (by rw [hD]; exact hp2), hD] at e
    rw [e] at hpins
    simp only [Bool.and_eq_true, decide_eq_true_eq] at hc
    obtain ⟨⟨rfl, rfl⟩, hh⟩ := hc
    have hcode : hintCode D.hint = 1 := by rw [hh]; rfl
    rw [hcode]
    repeat' (first
    | ((first | (show AL _ _ _ _ _ _ _ _; refine Ae Y ?_) | (show DL _ _ _ _ _ _ _; refine' Aw Y Y (fun K kk => ?_) ?_; try (show Go.Ts.T; rotate_left))); (first
      | (show AOp _ _ ⟨_, .move _, _, _, _, _⟩ _ _ _; refine Ar hG Y Y ?_)
      | (show AOp _ _ ⟨_, .assign _, _, _, _, _⟩ _ _ _; refine A2 hG Y Y ?_)
      | (show AOp _ _ ⟨_, .binOp .add _ _ _ _, _, _, _, _⟩ _ _ _; first | refine Ad hG Y Y Y Y Y (by omega) ?_ | refine Ad (m := 1) hG Y Y Y Y Y (by omega) ?_ | refine Aa hG Y Y Y Y Y (by omega) ?_)
      | (show AOp _ _ ⟨_, .binOp .sub _ _ _ _, _, _, _, _⟩ _ _ _; first | refine Ah hG Y Y Y Y (by omega) ?_ | refine Ah (m := 1) hG Y Y Y Y (by omega) ?_ | refine Aa hG Y Y Y Y Y (by omega) ?_)
      | (show AOp _ _ ⟨_, .binOp .quo _ _ _ _, _, _, _, _⟩ _ _ _; first | refine Bf (m := 2) hG Y Y Y Y (by omega) ?_ | refine Bf (m := 4) hG Y Y Y Y (by omega) ?_ | refine Bf (m := 8) hG Y Y Y Y (by omega) ?_)
      | (show AOp _ _ ⟨_, .binOp _ _ _ _ _, _, _, _, _⟩ _ _ _; first | refine Ax hG Y Y Y Y Y (by omega) ?_ | refine Ay hG Y Y Y Y Y (by omega) ?_ | ((fail_if_success have := kk); refine Ak hG Y Y Y Y Y (fun h => ?_) (fun h => ?_)) | refine Bx hG Y Y Y ?_)
      | (show AOp _ _ ⟨_, .load _ _, _, _, _, _⟩ _ _ _; first | refine A5 (α := UInt16) 0 hG Y Y Y Y (by omega) Y ?_ | refine A8 hG Y Y Y ?_ | refine Bn 0 hG Y Y Y Y ?_)
      | (show AOp _ _ ⟨_, .indexAddr _ _ _, _, _, _, _⟩ _ _ _; first | refine Bb hG Y Y Y Y Y Y Y (by omega) ?_ | refine A6 hG Y Y Y Y Y Y Y (by omega) ?_ | refine A7 hG Y Y Y Y Y Y Y (by omega) ?_ | refine Bg hG Y Y ?_)
      | (show AOp _ _ ⟨_, .pick _ _ _, _, _, _, _⟩ _ _ _; refine Ba hG Y Y Y ?_)
      | (show AOp _ _ ⟨_, .unOp _ _ _, _, _, _, _⟩ _ _ _; refine Bm hG Y Y Y ?_)
      | (show AOp _ _ ⟨_, .call ⟨.value _, _, _⟩, _, _, _, _⟩ _ _ _; first | refine r_row Y Y Y Y Y (List.Perm.refl _) hpins (by assumption) ?_ | fail)
      | refine r_q hG Y Y Y ?_); try exact kk)
    | (show AL _ _ _ _ _ _ _ _; first | refine Bk Y Y Y ?_ | (refine As ?_; first | show AW _ _ _ _ _ _ | show ∃ x', _ < _ ∧ _)) | (show AW _ _ (.seq _ _) _ _ _; refine Ag ?_; intro Q1) | (show AW _ _ (.region _ _ false) _ _ _; refine Ac ?_; intro O1) | (show AW _ _ (.cond _ _ _) _ _ _; first | refine Ao Y ?_ | refine Ap Y ?_ | refine Bo Y (fun h => ?_) (fun h => ?_)) | (show AW _ _ (.skip) _ _ _; refine Aj ?_; first | show AW _ _ _ _ _ _ | show ∃ x', _ < _ ∧ _) | (show AW _ _ (.block _ _) _ _ _; refine Al ?_; intro Q1) | (show AW _ _ (.exit _) _ _ _; refine Av ?_; first | show AW _ _ _ _ _ _ | show ∃ x', _ < _ ∧ _) | (show AW _ _ (.ret) _ _ _; refine Au ?_; try dsimp only [Az, Ab, A4, Af])
    | (show DL _ _ _ _ _ _ _; refine Bq Y Y (fun K kt kf => Ak hG Y Y Y Y Y kt kf) (fun h => ?_) (fun h => ?_))
    | (show DL _ _ _ _ _ _ _; refine Br Y Y Y ?_) | (show DL _ _ _ _ _ _ _; refine A9 ?_; first | show AW _ _ _ _ _ _ | show ∃ x', _ < _ ∧ _) | (show AW _ _ (.region _ _ true) _ _ _; refine Aq mix (by kernel_rfl) ?_; intro O1) | fail)
    refine ret_row 0 Bj ?_ (.refl _) ?_ <;> rfl
  have hp3 : D.pi.2 = false := by simpa using hp2
  clear hp2
  repeat' (first
    | ((first | (show AL _ _ _ _ _ _ _ _; refine Ae Y ?_) | (show DL _ _ _ _ _ _ _; refine' Aw Y Y (fun K kk => ?_) ?_; try (show Go.Ts.T; rotate_left))); (first
      | (show AOp _ _ ⟨_, .move _, _, _, _, _⟩ _ _ _; refine Ar hG Y Y ?_)
      | (show AOp _ _ ⟨_, .assign _, _, _, _, _⟩ _ _ _; refine A2 hG Y Y ?_)
      | (show AOp _ _ ⟨_, .binOp .add _ _ _ _, _, _, _, _⟩ _ _ _; first | refine Ad hG Y Y Y Y Y (by omega) ?_ | refine Ad (m := 1) hG Y Y Y Y Y (by omega) ?_ | refine Aa hG Y Y Y Y Y (by omega) ?_)
      | (show AOp _ _ ⟨_, .binOp .sub _ _ _ _, _, _, _, _⟩ _ _ _; first | refine Ah hG Y Y Y Y (by omega) ?_ | refine Ah (m := 1) hG Y Y Y Y (by omega) ?_ | refine Aa hG Y Y Y Y Y (by omega) ?_)
      | (show AOp _ _ ⟨_, .binOp .quo _ _ _ _, _, _, _, _⟩ _ _ _; first | refine Bf (m := 2) hG Y Y Y Y (by omega) ?_ | refine Bf (m := 4) hG Y Y Y Y (by omega) ?_ | refine Bf (m := 8) hG Y Y Y Y (by omega) ?_)
      | (show AOp _ _ ⟨_, .binOp _ _ _ _ _, _, _, _, _⟩ _ _ _; first | refine Ax hG Y Y Y Y Y (by omega) ?_ | refine Ay hG Y Y Y Y Y (by omega) ?_ | ((fail_if_success have := kk); refine Ak hG Y Y Y Y Y (fun h => ?_) (fun h => ?_)) | refine Bx hG Y Y Y ?_)
      | (show AOp _ _ ⟨_, .load _ _, _, _, _, _⟩ _ _ _; first | refine A5 (α := UInt16) 0 hG Y Y Y Y (by omega) Y ?_ | refine A8 hG Y Y Y ?_ | refine Bn 0 hG Y Y Y Y ?_)
      | (show AOp _ _ ⟨_, .indexAddr _ _ _, _, _, _, _⟩ _ _ _; first | refine Bb hG Y Y Y Y Y Y Y (by omega) ?_ | refine A6 hG Y Y Y Y Y Y Y (by omega) ?_ | refine A7 hG Y Y Y Y Y Y Y (by omega) ?_ | refine Bg hG Y Y ?_)
      | (show AOp _ _ ⟨_, .pick _ _ _, _, _, _, _⟩ _ _ _; refine Ba hG Y Y Y ?_)
      | (show AOp _ _ ⟨_, .unOp _ _ _, _, _, _, _⟩ _ _ _; refine Bm hG Y Y Y ?_)
      | refine r_q hG Y Y Y ?_); try exact kk)
    | (show AL _ _ _ _ _ _ _ _; first | refine Bk Y Y Y ?_ | (refine As ?_; first | show AW _ _ _ _ _ _ | show ∃ x', _ < _ ∧ _)) | (show AW _ _ (.seq _ _) _ _ _; refine Ag ?_; intro Q1) | (show AW _ _ (.region _ _ false) _ _ _; (fail_if_success show AW _ _ (.region 15 _ _) _ _ _); refine Ac ?_; intro O1) | (show AW _ _ (.cond _ _ _) _ _ _; first | refine Ao Y ?_ | refine Ap Y ?_ | refine Bo Y (fun h => ?_) (fun h => ?_)) | (show AW _ _ (.skip) _ _ _; refine Aj ?_; first | show AW _ _ _ _ _ _ | show ∃ x', _ < _ ∧ _) | (show AW _ _ (.block _ _) _ _ _; refine Al ?_; intro Q1) | (show AW _ _ (.exit _) _ _ _; refine Av ?_; first | show AW _ _ _ _ _ _ | show ∃ x', _ < _ ∧ _) | (show AW _ _ (.ret) _ _ _; refine Au ?_; try dsimp only [Az, Ab, A4, Af])
    | (show DL _ _ _ _ _ _ _; refine Bq Y Y (fun K kt kf => Ak hG Y Y Y Y Y kt kf) (fun h => ?_) (fun h => ?_))
    | (show DL _ _ _ _ _ _ _; refine Br Y Y Y ?_) | (show DL _ _ _ _ _ _ _; refine A9 ?_; first | show AW _ _ _ _ _ _ | show ∃ x', _ < _ ∧ _) | (show AW _ _ (.region _ _ true) _ _ _; (fail_if_success show AW _ _ (.region 15 _ _) _ _ _); refine Aq mix (by kernel_rfl) ?_; intro O1) | fail)
  refine aw_to2 [(0, .aref 1 i 0 n cap), (1, .int .i64 (a : Int)), (2, .int .i64 (b : Int)), (3, .int .i64 (D.lim : Int)), (8, .bool wb), (9, .bool wp), (10, .int .i64 ((b - a : Nat) : Int)), (11, .int .i64 (D.pivot : Int))] ⟨[(i, .cells (rowT hT D.pi.1))], [], off, none⟩ ?_ ?_
  · cases hc : (wb && wp && decide (D.hint = .increasing)) with
    | true =>
      rw [← hpy hc, hp3] at hpins
      simp only [Bool.and_eq_true, decide_eq_true_eq] at hc
      obtain ⟨⟨rfl, rfl⟩, hh⟩ := hc
      have hcode : hintCode D.hint = 1 := by rw [hh]; rfl
      rw [hcode]
      repeat' (first
    | ((first | (show AL _ _ _ _ _ _ _ _; refine Ae Y ?_) | (show DL _ _ _ _ _ _ _; refine' Aw Y Y (fun K kk => ?_) ?_; try (show Go.Ts.T; rotate_left))); (first
      | (show AOp _ _ ⟨_, .move _, _, _, _, _⟩ _ _ _; refine Ar hG Y Y ?_)
      | (show AOp _ _ ⟨_, .assign _, _, _, _, _⟩ _ _ _; refine A2 hG Y Y ?_)
      | (show AOp _ _ ⟨_, .binOp .add _ _ _ _, _, _, _, _⟩ _ _ _; first | refine Ad hG Y Y Y Y Y (by omega) ?_ | refine Ad (m := 1) hG Y Y Y Y Y (by omega) ?_ | refine Aa hG Y Y Y Y Y (by omega) ?_)
      | (show AOp _ _ ⟨_, .binOp .sub _ _ _ _, _, _, _, _⟩ _ _ _; first | refine Ah hG Y Y Y Y (by omega) ?_ | refine Ah (m := 1) hG Y Y Y Y (by omega) ?_ | refine Aa hG Y Y Y Y Y (by omega) ?_)
      | (show AOp _ _ ⟨_, .binOp .quo _ _ _ _, _, _, _, _⟩ _ _ _; first | refine Bf (m := 2) hG Y Y Y Y (by omega) ?_ | refine Bf (m := 4) hG Y Y Y Y (by omega) ?_ | refine Bf (m := 8) hG Y Y Y Y (by omega) ?_)
      | (show AOp _ _ ⟨_, .binOp _ _ _ _ _, _, _, _, _⟩ _ _ _; first | refine Ax hG Y Y Y Y Y (by omega) ?_ | refine Ay hG Y Y Y Y Y (by omega) ?_ | ((fail_if_success have := kk); refine Ak hG Y Y Y Y Y (fun h => ?_) (fun h => ?_)) | refine Bx hG Y Y Y ?_)
      | (show AOp _ _ ⟨_, .load _ _, _, _, _, _⟩ _ _ _; first | refine A5 (α := UInt16) 0 hG Y Y Y Y (by omega) Y ?_ | refine A8 hG Y Y Y ?_ | refine Bn 0 hG Y Y Y Y ?_)
      | (show AOp _ _ ⟨_, .indexAddr _ _ _, _, _, _, _⟩ _ _ _; first | refine Bb hG Y Y Y Y Y Y Y (by omega) ?_ | refine A6 hG Y Y Y Y Y Y Y (by omega) ?_ | refine A7 hG Y Y Y Y Y Y Y (by omega) ?_ | refine Bg hG Y Y ?_)
      | (show AOp _ _ ⟨_, .pick _ _ _, _, _, _, _⟩ _ _ _; refine Ba hG Y Y Y ?_)
      | (show AOp _ _ ⟨_, .unOp _ _ _, _, _, _, _⟩ _ _ _; refine Bm hG Y Y Y ?_)
      | (show AOp _ _ ⟨_, .call ⟨.value _, _, _⟩, _, _, _, _⟩ _ _ _; first | refine r_row Y Y Y Y Y (List.Perm.refl _) hpins (by assumption) ?_ | fail)
      | refine r_q hG Y Y Y ?_); try exact kk)
    | (show AL _ _ _ _ _ _ _ _; first | refine Bk Y Y Y ?_ | (refine As ?_; first | show AW _ _ _ _ _ _ | show ∃ x', _ < _ ∧ _)) | (show AW _ _ (.seq _ _) _ _ _; refine Ag ?_; intro Q1) | (show AW _ _ (.region _ _ false) _ _ _; refine Ac ?_; intro O1) | (show AW _ _ (.cond _ _ _) _ _ _; first | refine Ao Y ?_ | refine Ap Y ?_ | refine Bo Y (fun h => ?_) (fun h => ?_)) | (show AW _ _ (.skip) _ _ _; refine Aj ?_; first | show AW _ _ _ _ _ _ | show ∃ x', _ < _ ∧ _) | (show AW _ _ (.block _ _) _ _ _; refine Al ?_; intro Q1) | (show AW _ _ (.exit _) _ _ _; refine Av ?_; first | show AW _ _ _ _ _ _ | show ∃ x', _ < _ ∧ _) | (show AW _ _ (.ret) _ _ _; refine Au ?_; try dsimp only [Az, Ab, A4, Af])
    | (show DL _ _ _ _ _ _ _; refine Bq Y Y (fun K kt kf => Ak hG Y Y Y Y Y kt kf) (fun h => ?_) (fun h => ?_))
    | (show DL _ _ _ _ _ _ _; refine Br Y Y Y ?_) | (show DL _ _ _ _ _ _ _; refine A9 ?_; first | show AW _ _ _ _ _ _ | show ∃ x', _ < _ ∧ _) | (show AW _ _ (.region _ _ true) _ _ _; refine Aq mix (by kernel_rfl) ?_; intro O1) | fail)
      (first | refine As ?_ | refine Aj ?_); exact ⟨rfl, (by repeat (first | exact .nil _ | refine .cons rfl ?_)), rfl⟩
    | false =>
      rw [hpn hc]
      clear hpins hpy hpn
      cases wb with
      | false =>
        repeat' (first
    | ((first | (show AL _ _ _ _ _ _ _ _; refine Ae Y ?_) | (show DL _ _ _ _ _ _ _; refine' Aw Y Y (fun K kk => ?_) ?_; try (show Go.Ts.T; rotate_left))); (first
      | (show AOp _ _ ⟨_, .move _, _, _, _, _⟩ _ _ _; refine Ar hG Y Y ?_)
      | (show AOp _ _ ⟨_, .assign _, _, _, _, _⟩ _ _ _; refine A2 hG Y Y ?_)
      | (show AOp _ _ ⟨_, .binOp .add _ _ _ _, _, _, _, _⟩ _ _ _; first | refine Ad hG Y Y Y Y Y (by omega) ?_ | refine Ad (m := 1) hG Y Y Y Y Y (by omega) ?_ | refine Aa hG Y Y Y Y Y (by omega) ?_)
      | (show AOp _ _ ⟨_, .binOp .sub _ _ _ _, _, _, _, _⟩ _ _ _; first | refine Ah hG Y Y Y Y (by omega) ?_ | refine Ah (m := 1) hG Y Y Y Y (by omega) ?_ | refine Aa hG Y Y Y Y Y (by omega) ?_)
      | (show AOp _ _ ⟨_, .binOp .quo _ _ _ _, _, _, _, _⟩ _ _ _; first | refine Bf (m := 2) hG Y Y Y Y (by omega) ?_ | refine Bf (m := 4) hG Y Y Y Y (by omega) ?_ | refine Bf (m := 8) hG Y Y Y Y (by omega) ?_)
      | (show AOp _ _ ⟨_, .binOp _ _ _ _ _, _, _, _, _⟩ _ _ _; first | refine Ax hG Y Y Y Y Y (by omega) ?_ | refine Ay hG Y Y Y Y Y (by omega) ?_ | ((fail_if_success have := kk); refine Ak hG Y Y Y Y Y (fun h => ?_) (fun h => ?_)) | refine Bx hG Y Y Y ?_)
      | (show AOp _ _ ⟨_, .load _ _, _, _, _, _⟩ _ _ _; first | refine A5 (α := UInt16) 0 hG Y Y Y Y (by omega) Y ?_ | refine A8 hG Y Y Y ?_ | refine Bn 0 hG Y Y Y Y ?_)
      | (show AOp _ _ ⟨_, .indexAddr _ _ _, _, _, _, _⟩ _ _ _; first | refine Bb hG Y Y Y Y Y Y Y (by omega) ?_ | refine A6 hG Y Y Y Y Y Y Y (by omega) ?_ | refine A7 hG Y Y Y Y Y Y Y (by omega) ?_ | refine Bg hG Y Y ?_)
      | (show AOp _ _ ⟨_, .pick _ _ _, _, _, _, _⟩ _ _ _; refine Ba hG Y Y Y ?_)
      | (show AOp _ _ ⟨_, .unOp _ _ _, _, _, _, _⟩ _ _ _; refine Bm hG Y Y Y ?_)
      | refine r_q hG Y Y Y ?_); try exact kk)
    | (show AL _ _ _ _ _ _ _ _; first | refine Bk Y Y Y ?_ | (refine As ?_; first | show AW _ _ _ _ _ _ | show ∃ x', _ < _ ∧ _)) | (show AW _ _ (.seq _ _) _ _ _; refine Ag ?_; intro Q1) | (show AW _ _ (.region _ _ false) _ _ _; refine Ac ?_; intro O1) | (show AW _ _ (.cond _ _ _) _ _ _; first | refine Ao Y ?_ | refine Ap Y ?_ | refine Bo Y (fun h => ?_) (fun h => ?_)) | (show AW _ _ (.skip) _ _ _; refine Aj ?_; first | show AW _ _ _ _ _ _ | show ∃ x', _ < _ ∧ _) | (show AW _ _ (.block _ _) _ _ _; refine Al ?_; intro Q1) | (show AW _ _ (.exit _) _ _ _; refine Av ?_; first | show AW _ _ _ _ _ _ | show ∃ x', _ < _ ∧ _) | (show AW _ _ (.ret) _ _ _; refine Au ?_; try dsimp only [Az, Ab, A4, Af])
    | (show DL _ _ _ _ _ _ _; refine Bq Y Y (fun K kt kf => Ak hG Y Y Y Y Y kt kf) (fun h => ?_) (fun h => ?_))
    | (show DL _ _ _ _ _ _ _; refine Br Y Y Y ?_) | (show DL _ _ _ _ _ _ _; refine A9 ?_; first | show AW _ _ _ _ _ _ | show ∃ x', _ < _ ∧ _) | (show AW _ _ (.region _ _ true) _ _ _; refine Aq mix (by kernel_rfl) ?_; intro O1) | fail)
        (first | refine As ?_ | refine Aj ?_); exact ⟨rfl, (by repeat (first | exact .nil _ | refine .cons rfl ?_)), rfl⟩
      | true =>
        cases wp with
        | false =>
          repeat' (first
    | ((first | (show AL _ _ _ _ _ _ _ _; refine Ae Y ?_) | (show DL _ _ _ _ _ _ _; refine' Aw Y Y (fun K kk => ?_) ?_; try (show Go.Ts.T; rotate_left))); (first
      | (show AOp _ _ ⟨_, .move _, _, _, _, _⟩ _ _ _; refine Ar hG Y Y ?_)
      | (show AOp _ _ ⟨_, .assign _, _, _, _, _⟩ _ _ _; refine A2 hG Y Y ?_)
      | (show AOp _ _ ⟨_, .binOp .add _ _ _ _, _, _, _, _⟩ _ _ _; first | refine Ad hG Y Y Y Y Y (by omega) ?_ | refine Ad (m := 1) hG Y Y Y Y Y (by omega) ?_ | refine Aa hG Y Y Y Y Y (by omega) ?_)
      | (show AOp _ _ ⟨_, .binOp .sub _ _ _ _, _, _, _, _⟩ _ _ _; first | refine Ah hG Y Y Y Y (by omega) ?_ | refine Ah (m := 1) hG Y Y Y Y (by omega) ?_ | refine Aa hG Y Y Y Y Y (by omega) ?_)
      | (show AOp _ _ ⟨_, .binOp .quo _ _ _ _, _, _, _, _⟩ _ _ _; first | refine Bf (m := 2) hG Y Y Y Y (by omega) ?_ | refine Bf (m := 4) hG Y Y Y Y (by omega) ?_ | refine Bf (m := 8) hG Y Y Y Y (by omega) ?_)
      | (show AOp _ _ ⟨_, .binOp _ _ _ _ _, _, _, _, _⟩ _ _ _; first | refine Ax hG Y Y Y Y Y (by omega) ?_ | refine Ay hG Y Y Y Y Y (by omega) ?_ | ((fail_if_success have := kk); refine Ak hG Y Y Y Y Y (fun h => ?_) (fun h => ?_)) | refine Bx hG Y Y Y ?_)
      | (show AOp _ _ ⟨_, .load _ _, _, _, _, _⟩ _ _ _; first | refine A5 (α := UInt16) 0 hG Y Y Y Y (by omega) Y ?_ | refine A8 hG Y Y Y ?_ | refine Bn 0 hG Y Y Y Y ?_)
      | (show AOp _ _ ⟨_, .indexAddr _ _ _, _, _, _, _⟩ _ _ _; first | refine Bb hG Y Y Y Y Y Y Y (by omega) ?_ | refine A6 hG Y Y Y Y Y Y Y (by omega) ?_ | refine A7 hG Y Y Y Y Y Y Y (by omega) ?_ | refine Bg hG Y Y ?_)
      | (show AOp _ _ ⟨_, .pick _ _ _, _, _, _, _⟩ _ _ _; refine Ba hG Y Y Y ?_)
      | (show AOp _ _ ⟨_, .unOp _ _ _, _, _, _, _⟩ _ _ _; refine Bm hG Y Y Y ?_)
      | refine r_q hG Y Y Y ?_); try exact kk)
    | (show AL _ _ _ _ _ _ _ _; first | refine Bk Y Y Y ?_ | (refine As ?_; first | show AW _ _ _ _ _ _ | show ∃ x', _ < _ ∧ _)) | (show AW _ _ (.seq _ _) _ _ _; refine Ag ?_; intro Q1) | (show AW _ _ (.region _ _ false) _ _ _; refine Ac ?_; intro O1) | (show AW _ _ (.cond _ _ _) _ _ _; first | refine Ao Y ?_ | refine Ap Y ?_ | refine Bo Y (fun h => ?_) (fun h => ?_)) | (show AW _ _ (.skip) _ _ _; refine Aj ?_; first | show AW _ _ _ _ _ _ | show ∃ x', _ < _ ∧ _) | (show AW _ _ (.block _ _) _ _ _; refine Al ?_; intro Q1) | (show AW _ _ (.exit _) _ _ _; refine Av ?_; first | show AW _ _ _ _ _ _ | show ∃ x', _ < _ ∧ _) | (show AW _ _ (.ret) _ _ _; refine Au ?_; try dsimp only [Az, Ab, A4, Af])
    | (show DL _ _ _ _ _ _ _; refine Bq Y Y (fun K kt kf => Ak hG Y Y Y Y Y kt kf) (fun h => ?_) (fun h => ?_))
    | (show DL _ _ _ _ _ _ _; refine Br Y Y Y ?_) | (show DL _ _ _ _ _ _ _; refine A9 ?_; first | show AW _ _ _ _ _ _ | show ∃ x', _ < _ ∧ _) | (show AW _ _ (.region _ _ true) _ _ _; refine Aq mix (by kernel_rfl) ?_; intro O1) | fail)
          (first | refine As ?_ | refine Aj ?_); exact ⟨rfl, (by repeat (first | exact .nil _ | refine .cons rfl ?_)), rfl⟩
        | true =>
          have hcode : hintCode D.hint ≠ 1 := by cases h : D.hint <;> simp_all [hintCode]
          repeat' (first
    | ((first | (show AL _ _ _ _ _ _ _ _; refine Ae Y ?_) | (show DL _ _ _ _ _ _ _; refine' Aw Y Y (fun K kk => ?_) ?_; try (show Go.Ts.T; rotate_left))); (first
      | (show AOp _ _ ⟨_, .move _, _, _, _, _⟩ _ _ _; refine Ar hG Y Y ?_)
      | (show AOp _ _ ⟨_, .assign _, _, _, _, _⟩ _ _ _; refine A2 hG Y Y ?_)
      | (show AOp _ _ ⟨_, .binOp .add _ _ _ _, _, _, _, _⟩ _ _ _; first | refine Ad hG Y Y Y Y Y (by omega) ?_ | refine Ad (m := 1) hG Y Y Y Y Y (by omega) ?_ | refine Aa hG Y Y Y Y Y (by omega) ?_)
      | (show AOp _ _ ⟨_, .binOp .sub _ _ _ _, _, _, _, _⟩ _ _ _; first | refine Ah hG Y Y Y Y (by omega) ?_ | refine Ah (m := 1) hG Y Y Y Y (by omega) ?_ | refine Aa hG Y Y Y Y Y (by omega) ?_)
      | (show AOp _ _ ⟨_, .binOp .quo _ _ _ _, _, _, _, _⟩ _ _ _; first | refine Bf (m := 2) hG Y Y Y Y (by omega) ?_ | refine Bf (m := 4) hG Y Y Y Y (by omega) ?_ | refine Bf (m := 8) hG Y Y Y Y (by omega) ?_)
      | (show AOp _ _ ⟨_, .binOp _ _ _ _ _, _, _, _, _⟩ _ _ _; first | refine Ax hG Y Y Y Y Y (by omega) ?_ | refine Ay hG Y Y Y Y Y (by omega) ?_ | ((fail_if_success have := kk); refine Ak hG Y Y Y Y Y (fun h => ?_) (fun h => ?_)) | refine Bx hG Y Y Y ?_)
      | (show AOp _ _ ⟨_, .load _ _, _, _, _, _⟩ _ _ _; first | refine A5 (α := UInt16) 0 hG Y Y Y Y (by omega) Y ?_ | refine A8 hG Y Y Y ?_ | refine Bn 0 hG Y Y Y Y ?_)
      | (show AOp _ _ ⟨_, .indexAddr _ _ _, _, _, _, _⟩ _ _ _; first | refine Bb hG Y Y Y Y Y Y Y (by omega) ?_ | refine A6 hG Y Y Y Y Y Y Y (by omega) ?_ | refine A7 hG Y Y Y Y Y Y Y (by omega) ?_ | refine Bg hG Y Y ?_)
      | (show AOp _ _ ⟨_, .pick _ _ _, _, _, _, _⟩ _ _ _; refine Ba hG Y Y Y ?_)
      | (show AOp _ _ ⟨_, .unOp _ _ _, _, _, _, _⟩ _ _ _; refine Bm hG Y Y Y ?_)
      | refine r_q hG Y Y Y ?_); try exact kk)
    | (show AL _ _ _ _ _ _ _ _; first | refine Bk Y Y Y ?_ | (refine As ?_; first | show AW _ _ _ _ _ _ | show ∃ x', _ < _ ∧ _)) | (show AW _ _ (.seq _ _) _ _ _; refine Ag ?_; intro Q1) | (show AW _ _ (.region _ _ false) _ _ _; refine Ac ?_; intro O1) | (show AW _ _ (.cond _ _ _) _ _ _; first | refine Ao Y ?_ | refine Ap Y ?_ | refine Bo Y (fun h => ?_) (fun h => ?_)) | (show AW _ _ (.skip) _ _ _; refine Aj ?_; first | show AW _ _ _ _ _ _ | show ∃ x', _ < _ ∧ _) | (show AW _ _ (.block _ _) _ _ _; refine Al ?_; intro Q1) | (show AW _ _ (.exit _) _ _ _; refine Av ?_; first | show AW _ _ _ _ _ _ | show ∃ x', _ < _ ∧ _) | (show AW _ _ (.ret) _ _ _; refine Au ?_; try dsimp only [Az, Ab, A4, Af])
    | (show DL _ _ _ _ _ _ _; refine Bq Y Y (fun K kt kf => Ak hG Y Y Y Y Y kt kf) (fun h => ?_) (fun h => ?_))
    | (show DL _ _ _ _ _ _ _; refine Br Y Y Y ?_) | (show DL _ _ _ _ _ _ _; refine A9 ?_; first | show AW _ _ _ _ _ _ | show ∃ x', _ < _ ∧ _) | (show AW _ _ (.region _ _ true) _ _ _; refine Aq mix (by kernel_rfl) ?_; intro O1) | fail)
          (first | refine As ?_ | refine Aj ?_); exact ⟨rfl, (by repeat (first | exact .nil _ | refine .cons rfl ?_)), rfl⟩
  intro a' hk
  dsimp (config := { zetaDelta := true }) only [Az, Ab]
  refine aw_forget hk ?_
  clear hpins hpy hpn
  clear hpiv n1 n2 c1 s1 B1 s2 B2
  by_cases h2 : (decide (a > 0) && !ltH D.pi.1[a - 1]! D.pi.1[D.pivot]!) = true
  · obtain ⟨Q, hQ⟩ : ∃ Q, partitionEqual ltH D.pi.1 a b D.pivot = Q := ⟨_, rfl⟩
    have hpe := srt_peq (d0 := D.pi.1) (a := a) (b := b) (pv := D.pivot) pv.1 pv.2 (by omega) (by omega)
    rw [hQ] at hpe
    have h2' := h2
    simp only [Bool.and_eq_true, decide_eq_true_eq, Bool.not_eq_true'] at h2'
    obtain ⟨g1, g2, g3, g4, _⟩ := round_eq ltH_swo (partitionEqual_holds ltH) h2'.1 pv.1 pv.2 (by omega) B3 h2'.2 hQ
    rw [pdq_eq h12 h0 (by rw [hD]; exact hp3) (by rw [hD]; exact h2) (by rw [hD, hQ]; exact ⟨g1, g2⟩), hD, hQ] at e
    have hlt := Ce D.pi.1[a - 1]! D.pi.1[D.pivot]!
    rw [h2'.2] at hlt
    have ha := h2'.1
    repeat' (first
    | ((first | (show AL _ _ _ _ _ _ _ _; refine Ae Y ?_) | (show DL _ _ _ _ _ _ _; refine' Aw Y Y (fun K kk => ?_) ?_; try (show Go.Ts.T; rotate_left))); (first
      | (show AOp _ _ ⟨_, .move _, _, _, _, _⟩ _ _ _; refine Ar hG Y Y ?_)
      | (show AOp _ _ ⟨_, .assign _, _, _, _, _⟩ _ _ _; refine A2 hG Y Y ?_)
      | (show AOp _ _ ⟨_, .binOp .add _ _ _ _, _, _, _, _⟩ _ _ _; first | refine Ad hG Y Y Y Y Y (by omega) ?_ | refine Ad (m := 1) hG Y Y Y Y Y (by omega) ?_ | refine Aa hG Y Y Y Y Y (by omega) ?_)
      | (show AOp _ _ ⟨_, .binOp .sub _ _ _ _, _, _, _, _⟩ _ _ _; first | refine Ah hG Y Y Y Y (by omega) ?_ | refine Ah (m := 1) hG Y Y Y Y (by omega) ?_ | refine Aa hG Y Y Y Y Y (by omega) ?_)
      | (show AOp _ _ ⟨_, .binOp .quo _ _ _ _, _, _, _, _⟩ _ _ _; first | refine Bf (m := 2) hG Y Y Y Y (by omega) ?_ | refine Bf (m := 4) hG Y Y Y Y (by omega) ?_ | refine Bf (m := 8) hG Y Y Y Y (by omega) ?_)
      | (show AOp _ _ ⟨_, .binOp _ _ _ _ _, _, _, _, _⟩ _ _ _; first | refine Ax hG Y Y Y Y Y (by omega) ?_ | refine Ay hG Y Y Y Y Y (by omega) ?_ | ((fail_if_success have := kk); refine Ak hG Y Y Y Y Y (fun h => ?_) (fun h => ?_)) | refine Bx hG Y Y Y ?_)
      | (show AOp _ _ ⟨_, .load _ _, _, _, _, _⟩ _ _ _; first | refine A5 (α := UInt16) 0 hG Y Y Y Y (by omega) Y ?_ | refine A8 hG Y Y Y ?_ | refine Bn 0 hG Y Y Y Y ?_)
      | (show AOp _ _ ⟨_, .indexAddr _ _ _, _, _, _, _⟩ _ _ _; first | refine Bb hG Y Y Y Y Y Y Y (by omega) ?_ | refine A6 hG Y Y Y Y Y Y Y (by omega) ?_ | refine A7 hG Y Y Y Y Y Y Y (by omega) ?_ | refine Bg hG Y Y ?_)
      | (show AOp _ _ ⟨_, .pick _ _ _, _, _, _, _⟩ _ _ _; refine Ba hG Y Y Y ?_)
      | (show AOp _ _ ⟨_, .unOp _ _ _, _, _, _, _⟩ _ _ _; refine Bm hG Y Y Y ?_)
      | (show AOp _ _ ⟨_, .call ⟨.value _, _, _⟩, _, _, _, _⟩ _ _ _; first | refine Bp Y Y Y Y Y (by apply hlt <;> (first | assumption | omega | exact Am _ _ | exact A0 _ | exact A1 _ _ | exact Bc _ | rfl | (simp; omega))) ?_ | refine r_row Y Y Y Y Y (List.Perm.refl _) hpe (by assumption) ?_ | fail)
      | refine r_q hG Y Y Y ?_); try exact kk)
    | (show AL _ _ _ _ _ _ _ _; first | refine Bk Y Y Y ?_ | (refine As ?_; first | show AW _ _ _ _ _ _ | show ∃ x', _ < _ ∧ _)) | (show AW _ _ (.seq _ _) _ _ _; refine Ag ?_; intro Q1) | (show AW _ _ (.region _ _ false) _ _ _; refine Ac ?_; intro O1) | (show AW _ _ (.cond _ _ _) _ _ _; first | refine Ao Y ?_ | refine Ap Y ?_ | refine Bo Y (fun h => ?_) (fun h => ?_)) | (show AW _ _ (.skip) _ _ _; refine Aj ?_; first | show AW _ _ _ _ _ _ | show ∃ x', _ < _ ∧ _) | (show AW _ _ (.block _ _) _ _ _; refine Al ?_; intro Q1) | (show AW _ _ (.exit _) _ _ _; refine Av ?_; first | show AW _ _ _ _ _ _ | show ∃ x', _ < _ ∧ _) | (show AW _ _ (.ret) _ _ _; refine Au ?_; try dsimp only [Az, Ab, A4, Af])
    | (show DL _ _ _ _ _ _ _; refine Bq Y Y (fun K kt kf => Ak hG Y Y Y Y Y kt kf) (fun h => ?_) (fun h => ?_))
    | (show DL _ _ _ _ _ _ _; refine Br Y Y Y ?_) | (show DL _ _ _ _ _ _ _; refine A9 ?_; first | show AW _ _ _ _ _ _ | show ∃ x', _ < _ ∧ _) | (show AW _ _ (.region _ _ true) _ _ _; refine Aq mix (by kernel_rfl) ?_; intro O1) | fail)
    exact ⟨⟨Q.1, b, D.lim, wb, wp, Q.2, by omega, g2, hb, by omega, hlim, g4, e⟩, by dsimp only; omega, (by repeat (first | exact .nil _ | refine .cons rfl ?_)), .refl _⟩
  have h3 : (decide (a > 0) && !ltH D.pi.1[a - 1]! D.pi.1[D.pivot]!) = false := by simpa using h2
  repeat' (first
    | ((first | (show AL _ _ _ _ _ _ _ _; refine Ae Y ?_) | (show DL _ _ _ _ _ _ _; refine' Aw Y Y (fun K kk => ?_) ?_; try (show Go.Ts.T; rotate_left))); (first
      | (show AOp _ _ ⟨_, .move _, _, _, _, _⟩ _ _ _; refine Ar hG Y Y ?_)
      | (show AOp _ _ ⟨_, .assign _, _, _, _, _⟩ _ _ _; refine A2 hG Y Y ?_)
      | (show AOp _ _ ⟨_, .binOp .add _ _ _ _, _, _, _, _⟩ _ _ _; first | refine Ad hG Y Y Y Y Y (by omega) ?_ | refine Ad (m := 1) hG Y Y Y Y Y (by omega) ?_ | refine Aa hG Y Y Y Y Y (by omega) ?_)
      | (show AOp _ _ ⟨_, .binOp .sub _ _ _ _, _, _, _, _⟩ _ _ _; first | refine Ah hG Y Y Y Y (by omega) ?_ | refine Ah (m := 1) hG Y Y Y Y (by omega) ?_ | refine Aa hG Y Y Y Y Y (by omega) ?_)
      | (show AOp _ _ ⟨_, .binOp .quo _ _ _ _, _, _, _, _⟩ _ _ _; first | refine Bf (m := 2) hG Y Y Y Y (by omega) ?_ | refine Bf (m := 4) hG Y Y Y Y (by omega) ?_ | refine Bf (m := 8) hG Y Y Y Y (by omega) ?_)
      | (show AOp _ _ ⟨_, .binOp _ _ _ _ _, _, _, _, _⟩ _ _ _; first | refine Ax hG Y Y Y Y Y (by omega) ?_ | refine Ay hG Y Y Y Y Y (by omega) ?_ | ((fail_if_success have := kk); refine Ak hG Y Y Y Y Y (fun h => ?_) (fun h => ?_)) | refine Bx hG Y Y Y ?_)
      | (show AOp _ _ ⟨_, .load _ _, _, _, _, _⟩ _ _ _; first | refine A5 (α := UInt16) 0 hG Y Y Y Y (by omega) Y ?_ | refine A8 hG Y Y Y ?_ | refine Bn 0 hG Y Y Y Y ?_)
      | (show AOp _ _ ⟨_, .indexAddr _ _ _, _, _, _, _⟩ _ _ _; first | refine Bb hG Y Y Y Y Y Y Y (by omega) ?_ | refine A6 hG Y Y Y Y Y Y Y (by omega) ?_ | refine A7 hG Y Y Y Y Y Y Y (by omega) ?_ | refine Bg hG Y Y ?_)
      | (show AOp _ _ ⟨_, .pick _ _ _, _, _, _, _⟩ _ _ _; refine Ba hG Y Y Y ?_)
      | (show AOp _ _ ⟨_, .unOp _ _ _, _, _, _, _⟩ _ _ _; refine Bm hG Y Y Y ?_)
      | refine r_q hG Y Y Y ?_); try exact kk)
    | (show AL _ _ _ _ _ _ _ _; first | refine Bk Y Y Y ?_ | (refine As ?_; first | show AW _ _ _ _ _ _ | show ∃ x', _ < _ ∧ _)) | (show AW _ _ (.seq _ _) _ _ _; refine Ag ?_; intro Q1) | (show AW _ _ (.region _ _ false) _ _ _; (fail_if_success show AW _ _ (.region 17 _ _) _ _ _); refine Ac ?_; intro O1) | (show AW _ _ (.cond _ _ _) _ _ _; first | refine Ao Y ?_ | refine Ap Y ?_ | refine Bo Y (fun h => ?_) (fun h => ?_)) | (show AW _ _ (.skip) _ _ _; refine Aj ?_; first | show AW _ _ _ _ _ _ | show ∃ x', _ < _ ∧ _) | (show AW _ _ (.block _ _) _ _ _; refine Al ?_; intro Q1) | (show AW _ _ (.exit _) _ _ _; refine Av ?_; first | show AW _ _ _ _ _ _ | show ∃ x', _ < _ ∧ _) | (show AW _ _ (.ret) _ _ _; refine Au ?_; try dsimp only [Az, Ab, A4, Af])
    | (show DL _ _ _ _ _ _ _; refine Bq Y Y (fun K kt kf => Ak hG Y Y Y Y Y kt kf) (fun h => ?_) (fun h => ?_))
    | (show DL _ _ _ _ _ _ _; refine Br Y Y Y ?_) | (show DL _ _ _ _ _ _ _; refine A9 ?_; first | show AW _ _ _ _ _ _ | show ∃ x', _ < _ ∧ _) | (show AW _ _ (.region _ _ true) _ _ _; (fail_if_success show AW _ _ (.region 17 _ _) _ _ _); refine Aq mix (by kernel_rfl) ?_; intro O1) | fail)
  refine aw_to2 [(0, .aref 1 i 0 n cap), (1, .int .i64 (a : Int)), (2, .int .i64 (b : Int)), (3, .int .i64 (D.lim : Int)), (8, .bool wb), (9, .bool wp), (10, .int .i64 ((b - a : Nat) : Int)), (11, .int .i64 (D.pivot : Int))] ⟨[(i, .cells (rowT hT D.pi.1))], [], off, none⟩ ?_ ?_
  · have hlt := Ce D.pi.1[a - 1]! D.pi.1[D.pivot]!
    by_cases ha : 0 < a
    · have h4 : ltH D.pi.1[a - 1]! D.pi.1[D.pivot]! = true := by simpa [ha] using h3
      rw [h4] at hlt
      repeat' (first
    | ((first | (show AL _ _ _ _ _ _ _ _; refine Ae Y ?_) | (show DL _ _ _ _ _ _ _; refine' Aw Y Y (fun K kk => ?_) ?_; try (show Go.Ts.T; rotate_left))); (first
      | (show AOp _ _ ⟨_, .move _, _, _, _, _⟩ _ _ _; refine Ar hG Y Y ?_)
      | (show AOp _ _ ⟨_, .assign _, _, _, _, _⟩ _ _ _; refine A2 hG Y Y ?_)
      | (show AOp _ _ ⟨_, .binOp .add _ _ _ _, _, _, _, _⟩ _ _ _; first | refine Ad hG Y Y Y Y Y (by omega) ?_ | refine Ad (m := 1) hG Y Y Y Y Y (by omega) ?_ | refine Aa hG Y Y Y Y Y (by omega) ?_)
      | (show AOp _ _ ⟨_, .binOp .sub _ _ _ _, _, _, _, _⟩ _ _ _; first | refine Ah hG Y Y Y Y (by omega) ?_ | refine Ah (m := 1) hG Y Y Y Y (by omega) ?_ | refine Aa hG Y Y Y Y Y (by omega) ?_)
      | (show AOp _ _ ⟨_, .binOp .quo _ _ _ _, _, _, _, _⟩ _ _ _; first | refine Bf (m := 2) hG Y Y Y Y (by omega) ?_ | refine Bf (m := 4) hG Y Y Y Y (by omega) ?_ | refine Bf (m := 8) hG Y Y Y Y (by omega) ?_)
      | (show AOp _ _ ⟨_, .binOp _ _ _ _ _, _, _, _, _⟩ _ _ _; first | refine Ax hG Y Y Y Y Y (by omega) ?_ | refine Ay hG Y Y Y Y Y (by omega) ?_ | ((fail_if_success have := kk); refine Ak hG Y Y Y Y Y (fun h => ?_) (fun h => ?_)) | refine Bx hG Y Y Y ?_)
      | (show AOp _ _ ⟨_, .load _ _, _, _, _, _⟩ _ _ _; first | refine A5 (α := UInt16) 0 hG Y Y Y Y (by omega) Y ?_ | refine A8 hG Y Y Y ?_ | refine Bn 0 hG Y Y Y Y ?_)
      | (show AOp _ _ ⟨_, .indexAddr _ _ _, _, _, _, _⟩ _ _ _; first | refine Bb hG Y Y Y Y Y Y Y (by omega) ?_ | refine A6 hG Y Y Y Y Y Y Y (by omega) ?_ | refine A7 hG Y Y Y Y Y Y Y (by omega) ?_ | refine Bg hG Y Y ?_)
      | (show AOp _ _ ⟨_, .pick _ _ _, _, _, _, _⟩ _ _ _; refine Ba hG Y Y Y ?_)
      | (show AOp _ _ ⟨_, .unOp _ _ _, _, _, _, _⟩ _ _ _; refine Bm hG Y Y Y ?_)
      | (show AOp _ _ ⟨_, .call ⟨.value _, _, _⟩, _, _, _, _⟩ _ _ _; first | refine Bp Y Y Y Y Y (by apply hlt <;> (first | assumption | omega | exact Am _ _ | exact A0 _ | exact A1 _ _ | exact Bc _ | rfl | (simp; omega))) ?_ | fail)
      | refine r_q hG Y Y Y ?_); try exact kk)
    | (show AL _ _ _ _ _ _ _ _; first | refine Bk Y Y Y ?_ | (refine As ?_; first | show AW _ _ _ _ _ _ | show ∃ x', _ < _ ∧ _)) | (show AW _ _ (.seq _ _) _ _ _; refine Ag ?_; intro Q1) | (show AW _ _ (.region _ _ false) _ _ _; refine Ac ?_; intro O1) | (show AW _ _ (.cond _ _ _) _ _ _; first | refine Ao Y ?_ | refine Ap Y ?_ | refine Bo Y (fun h => ?_) (fun h => ?_)) | (show AW _ _ (.skip) _ _ _; refine Aj ?_; first | show AW _ _ _ _ _ _ | show ∃ x', _ < _ ∧ _) | (show AW _ _ (.block _ _) _ _ _; refine Al ?_; intro Q1) | (show AW _ _ (.exit _) _ _ _; refine Av ?_; first | show AW _ _ _ _ _ _ | show ∃ x', _ < _ ∧ _) | (show AW _ _ (.ret) _ _ _; refine Au ?_; try dsimp only [Az, Ab, A4, Af])
    | (show DL _ _ _ _ _ _ _; refine Bq Y Y (fun K kt kf => Ak hG Y Y Y Y Y kt kf) (fun h => ?_) (fun h => ?_))
    | (show DL _ _ _ _ _ _ _; refine Br Y Y Y ?_) | (show DL _ _ _ _ _ _ _; refine A9 ?_; first | show AW _ _ _ _ _ _ | show ∃ x', _ < _ ∧ _) | (show AW _ _ (.region _ _ true) _ _ _; refine Aq mix (by kernel_rfl) ?_; intro O1) | fail)
      (first | refine As ?_ | refine Aj ?_); exact ⟨rfl, (by repeat (first | exact .nil _ | refine .cons rfl ?_)), rfl⟩
    · repeat' (first
    | ((first | (show AL _ _ _ _ _ _ _ _; refine Ae Y ?_) | (show DL _ _ _ _ _ _ _; refine' Aw Y Y (fun K kk => ?_) ?_; try (show Go.Ts.T; rotate_left))); (first
      | (show AOp _ _ ⟨_, .move _, _, _, _, _⟩ _ _ _; refine Ar hG Y Y ?_)
      | (show AOp _ _ ⟨_, .assign _, _, _, _, _⟩ _ _ _; refine A2 hG Y Y ?_)
      | (show AOp _ _ ⟨_, .binOp .add _ _ _ _, _, _, _, _⟩ _ _ _; first | refine Ad hG Y Y Y Y Y (by omega) ?_ | refine Ad (m := 1) hG Y Y Y Y Y (by omega) ?_ | refine Aa hG Y Y Y Y Y (by omega) ?_)
      | (show AOp _ _ ⟨_, .binOp .sub _ _ _ _, _, _, _, _⟩ _ _ _; first | refine Ah hG Y Y Y Y (by omega) ?_ | refine Ah (m := 1) hG Y Y Y Y (by omega) ?_ | refine Aa hG Y Y Y Y Y (by omega) ?_)
      | (show AOp _ _ ⟨_, .binOp .quo _ _ _ _, _, _, _, _⟩ _ _ _; first | refine Bf (m := 2) hG Y Y Y Y (by omega) ?_ | refine Bf (m := 4) hG Y Y Y Y (by omega) ?_ | refine Bf (m := 8) hG Y Y Y Y (by omega) ?_)
      | (show AOp _ _ ⟨_, .binOp _ _ _ _ _, _, _, _, _⟩ _ _ _; first | refine Ax hG Y Y Y Y Y (by omega) ?_ | refine Ay hG Y Y Y Y Y (by omega) ?_ | ((fail_if_success have := kk); refine Ak hG Y Y Y Y Y (fun h => ?_) (fun h => ?_)) | refine Bx hG Y Y Y ?_)
      | (show AOp _ _ ⟨_, .load _ _, _, _, _, _⟩ _ _ _; first | refine A5 (α := UInt16) 0 hG Y Y Y Y (by omega) Y ?_ | refine A8 hG Y Y Y ?_ | refine Bn 0 hG Y Y Y Y ?_)
      | (show AOp _ _ ⟨_, .indexAddr _ _ _, _, _, _, _⟩ _ _ _; first | refine Bb hG Y Y Y Y Y Y Y (by omega) ?_ | refine A6 hG Y Y Y Y Y Y Y (by omega) ?_ | refine A7 hG Y Y Y Y Y Y Y (by omega) ?_ | refine Bg hG Y Y ?_)
      | (show AOp _ _ ⟨_, .pick _ _ _, _, _, _, _⟩ _ _ _; refine Ba hG Y Y Y ?_)
      | (show AOp _ _ ⟨_, .unOp _ _ _, _, _, _, _⟩ _ _ _; refine Bm hG Y Y Y ?_)
      | (show AOp _ _ ⟨_, .call ⟨.value _, _, _⟩, _, _, _, _⟩ _ _ _; first | refine Bp Y Y Y Y Y (by apply hlt <;> (first | assumption | omega | exact Am _ _ | exact A0 _ | exact A1 _ _ | exact Bc _ | rfl | (simp; omega))) ?_ | fail)
      | refine r_q hG Y Y Y ?_); try exact kk)
    | (show AL _ _ _ _ _ _ _ _; first | refine Bk Y Y Y ?_ | (refine As ?_; first | show AW _ _ _ _ _ _ | show ∃ x', _ < _ ∧ _)) | (show AW _ _ (.seq _ _) _ _ _; refine Ag ?_; intro Q1) | (show AW _ _ (.region _ _ false) _ _ _; refine Ac ?_; intro O1) | (show AW _ _ (.cond _ _ _) _ _ _; first | refine Ao Y ?_ | refine Ap Y ?_ | refine Bo Y (fun h => ?_) (fun h => ?_)) | (show AW _ _ (.skip) _ _ _; refine Aj ?_; first | show AW _ _ _ _ _ _ | show ∃ x', _ < _ ∧ _) | (show AW _ _ (.block _ _) _ _ _; refine Al ?_; intro Q1) | (show AW _ _ (.exit _) _ _ _; refine Av ?_; first | show AW _ _ _ _ _ _ | show ∃ x', _ < _ ∧ _) | (show AW _ _ (.ret) _ _ _; refine Au ?_; try dsimp only [Az, Ab, A4, Af])
    | (show DL _ _ _ _ _ _ _; refine Bq Y Y (fun K kt kf => Ak hG Y Y Y Y Y kt kf) (fun h => ?_) (fun h => ?_))
    | (show DL _ _ _ _ _ _ _; refine Br Y Y Y ?_) | (show DL _ _ _ _ _ _ _; refine A9 ?_; first | show AW _ _ _ _ _ _ | show ∃ x', _ < _ ∧ _) | (show AW _ _ (.region _ _ true) _ _ _; refine Aq mix (by kernel_rfl) ?_; intro O1) | fail)
      (first | refine As ?_ | refine Aj ?_); exact ⟨rfl, (by repeat (first | exact .nil _ | refine .cons rfl ?_)), rfl⟩
  intro a' hk
  dsimp (config := { zetaDelta := true }) only [Az, Ab]
  refine aw_forget hk ?_
  obtain ⟨Q, hQ⟩ : ∃ Q, partition ltH D.pi.1 a b D.pivot = Q := ⟨_, rfl⟩
  have hpt := srt_part (d0 := D.pi.1) (a := a) (b := b) (pv := D.pivot) pv.1 pv.2 (by omega) (by omega)
  obtain ⟨mid, ap, d4⟩ := Q
  obtain ⟨g1, g2, g3, g4, g5, gL, gR⟩ := round_part ltH_swo (partition_holds ltH) pv.1 pv.2 (by omega) B3 hQ
  rw [hQ] at hpt
  dsimp only at hpt
  have n4 : d4.size = n := by omega
  by_cases hlr : mid - a < b - mid
  · rw [pdq_left h12 h0 (by rw [hD]; exact hp3) (by rw [hD]; exact h3) (by rw [hD, hQ]; exact ⟨g1, g2⟩) (by rw [hD, hQ]; exact hlr), hD, hQ] at e
    dsimp only at e
    have hrec := IH (mid - a) (by omega) (d0 := d4) (a := a) (b := mid) (lim := D.lim) (Nat.le_refl _) g1 (by omega) (by omega) hlim g4
    have hs5 := pdq_sorts ltH ltH_swo d4 a mid D.lim true true g1 (by omega) g4
    obtain ⟨L, hL⟩ : ∃ L, pdq ltH d4 a mid D.lim true true = L := ⟨_, rfl⟩
    rw [hL] at hs5 hrec e
    have n5 : L.size = n := by rw [hs5.1.1]; omega
    have B5 := (gL L hs5.1 hs5.2).1
    repeat' (first
    | ((first | (show AL _ _ _ _ _ _ _ _; refine Ae Y ?_) | (show DL _ _ _ _ _ _ _; refine' Aw Y Y (fun K kk => ?_) ?_; try (show Go.Ts.T; rotate_left))); (first
      | (show AOp _ _ ⟨_, .move _, _, _, _, _⟩ _ _ _; refine Ar hG Y Y ?_)
      | (show AOp _ _ ⟨_, .assign _, _, _, _, _⟩ _ _ _; refine A2 hG Y Y ?_)
      | (show AOp _ _ ⟨_, .binOp .add _ _ _ _, _, _, _, _⟩ _ _ _; first | refine Ad hG Y Y Y Y Y (by omega) ?_ | refine Ad (m := 1) hG Y Y Y Y Y (by omega) ?_ | refine Aa hG Y Y Y Y Y (by omega) ?_)
      | (show AOp _ _ ⟨_, .binOp .sub _ _ _ _, _, _, _, _⟩ _ _ _; first | refine Ah hG Y Y Y Y (by omega) ?_ | refine Ah (m := 1) hG Y Y Y Y (by omega) ?_ | refine Aa hG Y Y Y Y Y (by omega) ?_)
      | (show AOp _ _ ⟨_, .binOp .quo _ _ _ _, _, _, _, _⟩ _ _ _; first | refine Bf (m := 2) hG Y Y Y Y (by omega) ?_ | refine Bf (m := 4) hG Y Y Y Y (by omega) ?_ | refine Bf (m := 8) hG Y Y Y Y (by omega) ?_)
      | (show AOp _ _ ⟨_, .binOp _ _ _ _ _, _, _, _, _⟩ _ _ _; first | refine Ax hG Y Y Y Y Y (by omega) ?_ | refine Ay hG Y Y Y Y Y (by omega) ?_ | ((fail_if_success have := kk); refine Ak hG Y Y Y Y Y (fun h => ?_) (fun h => ?_)) | refine Bx hG Y Y Y ?_)
      | (show AOp _ _ ⟨_, .load _ _, _, _, _, _⟩ _ _ _; first | refine A5 (α := UInt16) 0 hG Y Y Y Y (by omega) Y ?_ | refine A8 hG Y Y Y ?_ | refine Bn 0 hG Y Y Y Y ?_)
      | (show AOp _ _ ⟨_, .indexAddr _ _ _, _, _, _, _⟩ _ _ _; first | refine Bb hG Y Y Y Y Y Y Y (by omega) ?_ | refine A6 hG Y Y Y Y Y Y Y (by omega) ?_ | refine A7 hG Y Y Y Y Y Y Y (by omega) ?_ | refine Bg hG Y Y ?_)
      | (show AOp _ _ ⟨_, .pick _ _ _, _, _, _, _⟩ _ _ _; refine Ba hG Y Y Y ?_)
      | (show AOp _ _ ⟨_, .unOp _ _ _, _, _, _, _⟩ _ _ _; refine Bm hG Y Y Y ?_)
      | (show AOp _ _ ⟨_, .call ⟨.value _, _, _⟩, _, _, _, _⟩ _ _ _; first | refine r_row Y Y Y Y Y (List.Perm.refl _) hpt (by assumption) ?_ | refine r_row Y Y Y Y Y (List.Perm.refl _) hrec (by assumption) ?_ | fail)
      | refine r_q hG Y Y Y ?_); try exact kk)
    | (show AL _ _ _ _ _ _ _ _; first | refine Bk Y Y Y ?_ | (refine As ?_; first | show AW _ _ _ _ _ _ | show ∃ x', _ < _ ∧ _)) | (show AW _ _ (.seq _ _) _ _ _; refine Ag ?_; intro Q1) | (show AW _ _ (.region _ _ false) _ _ _; refine Ac ?_; intro O1) | (show AW _ _ (.cond _ _ _) _ _ _; first | refine Ao Y ?_ | refine Ap Y ?_ | refine Bo Y (fun h => ?_) (fun h => ?_)) | (show AW _ _ (.skip) _ _ _; refine Aj ?_; first | show AW _ _ _ _ _ _ | show ∃ x', _ < _ ∧ _) | (show AW _ _ (.block _ _) _ _ _; refine Al ?_; intro Q1) | (show AW _ _ (.exit _) _ _ _; refine Av ?_; first | show AW _ _ _ _ _ _ | show ∃ x', _ < _ ∧ _) | (show AW _ _ (.ret) _ _ _; refine Au ?_; try dsimp only [Az, Ab, A4, Af])
    | (show DL _ _ _ _ _ _ _; refine Bq Y Y (fun K kt kf => Ak hG Y Y Y Y Y kt kf) (fun h => ?_) (fun h => ?_))
    | (show DL _ _ _ _ _ _ _; refine Br Y Y Y ?_) | (show DL _ _ _ _ _ _ _; refine A9 ?_; first | show AW _ _ _ _ _ _ | show ∃ x', _ < _ ∧ _) | (show AW _ _ (.region _ _ true) _ _ _; refine Aq mix (by kernel_rfl) ?_; intro O1) | fail)
    · rw [show decide (mid - a ≥ (b - a) / 8) = true by simp; omega] at e
      exact ⟨⟨mid + 1, b, D.lim, true, ap, L, n5, by omega, hb, by omega, hlim, B5, e⟩, by dsimp only; omega, (by repeat (first | exact .nil _ | refine .cons rfl ?_)), .refl _⟩
    · rw [show decide (mid - a ≥ (b - a) / 8) = false by simp; omega] at e
      exact ⟨⟨mid + 1, b, D.lim, false, ap, L, n5, by omega, hb, by omega, hlim, B5, e⟩, by dsimp only; omega, (by repeat (first | exact .nil _ | refine .cons rfl ?_)), .refl _⟩
  · rw [pdq_right h12 h0 (by rw [hD]; exact hp3) (by rw [hD]; exact h3) (by rw [hD, hQ]; exact ⟨g1, g2⟩) (by rw [hD, hQ]; exact hlr), hD, hQ] at e
    dsimp only at e
    have hrec := IH (b - (mid + 1)) (by omega) (d0 := d4) (a := mid + 1) (b := b) (lim := D.lim) (Nat.le_refl _) (by omega) (by omega) (by omega) hlim g5
    have hs5 := pdq_sorts ltH ltH_swo d4 (mid + 1) b D.lim true true (by omega) (by omega) g5
    obtain ⟨L, hL⟩ : ∃ L, pdq ltH d4 (mid + 1) b D.lim true true = L := ⟨_, rfl⟩
    rw [hL] at hs5 hrec e
    have n5 : L.size = n := by rw [hs5.1.1]; omega
    have B5 := (gR L hs5.1 hs5.2).1
    repeat' (first
    | ((first | (show AL _ _ _ _ _ _ _ _; refine Ae Y ?_) | (show DL _ _ _ _ _ _ _; refine' Aw Y Y (fun K kk => ?_) ?_; try (show Go.Ts.T; rotate_left))); (first
      | (show AOp _ _ ⟨_, .move _, _, _, _, _⟩ _ _ _; refine Ar hG Y Y ?_)
      | (show AOp _ _ ⟨_, .assign _, _, _, _, _⟩ _ _ _; refine A2 hG Y Y ?_)
      | (show AOp _ _ ⟨_, .binOp .add _ _ _ _, _, _, _, _⟩ _ _ _; first | refine Ad hG Y Y Y Y Y (by omega) ?_ | refine Ad (m := 1) hG Y Y Y Y Y (by omega) ?_ | refine Aa hG Y Y Y Y Y (by omega) ?_)
      | (show AOp _ _ ⟨_, .binOp .sub _ _ _ _, _, _, _, _⟩ _ _ _; first | refine Ah hG Y Y Y Y (by omega) ?_ | refine Ah (m := 1) hG Y Y Y Y (by omega) ?_ | refine Aa hG Y Y Y Y Y (by omega) ?_)
      | (show AOp _ _ ⟨_, .binOp .quo _ _ _ _, _, _, _, _⟩ _ _ _; first | refine Bf (m := 2) hG Y Y Y Y (by omega) ?_ | refine Bf (m := 4) hG Y Y Y Y (by omega) ?_ | refine Bf (m := 8) hG Y Y Y Y (by omega) ?_)
      | (show AOp _ _ ⟨_, .binOp _ _ _ _ _, _, _, _, _⟩ _ _ _; first | refine Ax hG Y Y Y Y Y (by omega) ?_ | refine Ay hG Y Y Y Y Y (by omega) ?_ | ((fail_if_success have := kk); refine Ak hG Y Y Y Y Y (fun h => ?_) (fun h => ?_)) | refine Bx hG Y Y Y ?_)
      | (show AOp _ _ ⟨_, .load _ _, _, _, _, _⟩ _ _ _; first | refine A5 (α := UInt16) 0 hG Y Y Y Y (by omega) Y ?_ | refine A8 hG Y Y Y ?_ | refine Bn 0 hG Y Y Y Y ?_)
      | (show AOp _ _ ⟨_, .indexAddr _ _ _, _, _, _, _⟩ _ _ _; first | refine Bb hG Y Y Y Y Y Y Y (by omega) ?_ | refine A6 hG Y Y Y Y Y Y Y (by omega) ?_ | refine A7 hG Y Y Y Y Y Y Y (by omega) ?_ | refine Bg hG Y Y ?_)
      | (show AOp _ _ ⟨_, .pick _ _ _, _, _, _, _⟩ _ _ _; refine Ba hG Y Y Y ?_)
      | (show AOp _ _ ⟨_, .unOp _ _ _, _, _, _, _⟩ _ _ _; refine Bm hG Y Y Y ?_)
      | (show AOp _ _ ⟨_, .call ⟨.value _, _, _⟩, _, _, _, _⟩ _ _ _; first | refine r_row Y Y Y Y Y (List.Perm.refl _) hpt (by assumption) ?_ | refine r_row Y Y Y Y Y (List.Perm.refl _) hrec (by assumption) ?_ | fail)
      | refine r_q hG Y Y Y ?_); try exact kk)
    | (show AL _ _ _ _ _ _ _ _; first | refine Bk Y Y Y ?_ | (refine As ?_; first | show AW _ _ _ _ _ _ | show ∃ x', _ < _ ∧ _)) | (show AW _ _ (.seq _ _) _ _ _; refine Ag ?_; intro Q1) | (show AW _ _ (.region _ _ false) _ _ _; refine Ac ?_; intro O1) | (show AW _ _ (.cond _ _ _) _ _ _; first | refine Ao Y ?_ | refine Ap Y ?_ | refine Bo Y (fun h => ?_) (fun h => ?_)) | (show AW _ _ (.skip) _ _ _; refine Aj ?_; first | show AW _ _ _ _ _ _ | show ∃ x', _ < _ ∧ _) | (show AW _ _ (.block _ _) _ _ _; refine Al ?_; intro Q1) | (show AW _ _ (.exit _) _ _ _; refine Av ?_; first | show AW _ _ _ _ _ _ | show ∃ x', _ < _ ∧ _) | (show AW _ _ (.ret) _ _ _; refine Au ?_; try dsimp only [Az, Ab, A4, Af])
    | (show DL _ _ _ _ _ _ _; refine Bq Y Y (fun K kt kf => Ak hG Y Y Y Y Y kt kf) (fun h => ?_) (fun h => ?_))
    | (show DL _ _ _ _ _ _ _; refine Br Y Y Y ?_) | (show DL _ _ _ _ _ _ _; refine A9 ?_; first | show AW _ _ _ _ _ _ | show ∃ x', _ < _ ∧ _) | (show AW _ _ (.region _ _ true) _ _ _; refine Aq mix (by kernel_rfl) ?_; intro O1) | fail)
    · rw [show decide (b - mid ≥ (b - a) / 8) = true by simp; omega] at e
      exact ⟨⟨a, mid, D.lim, true, ap, L, n5, g1, by omega, by omega, hlim, B5, e⟩, by dsimp only; omega, (by repeat (first | exact .nil _ | refine .cons rfl ?_)), .refl _⟩
    · rw [show decide (b - mid ≥ (b - a) / 8) = false by simp; omega] at e
      exact ⟨⟨a, mid, D.lim, false, ap, L, n5, g1, by omega, by omega, hlim, B5, e⟩, by dsimp only; omega, (by repeat (first | exact .nil _ | refine .cons rfl ?_)), .refl _⟩
theorem srt_sort {d0 : Array UInt16} (hs : d0.size < 256) : OnRow Try.prog 29 hT [] d0 (.tup []) (Go.Sort.sort ltH d0) := by
  have h1 := bits_Len (x := d0.size) hs
  have h8 := bitsLen_le8 hs
  have h2 := srt_pdq d0.size (d0 := d0) (a := 0) (b := d0.size) (lim := bitsLen d0.size) (by omega) (by omega) (Nat.le_refl _) hs (by omega) (Or.inl rfl)
  intro off i n cap hn
  subst hn
  rw [show Go.Sort.sort ltH d0 = pdq ltH d0 0 d0.size (bitsLen d0.size) true true from rfl]
  generalize pdq ltH d0 0 d0.size (bitsLen d0.size) true true = R at *
  have hsz : d0.size = d0.size := rfl
  refine Bs (N := 11) (rs := []) hG Try.func29 rfl rfl rfl rfl rfl ?_
  repeat' (first
    | ((show AL _ _ _ _ _ _ _ _; refine Ae Y ?_); (first
      | (show AOp _ _ ⟨_, .move _, _, _, _, _⟩ _ _ _; refine Ar hG Y Y ?_)
      | (show AOp _ _ ⟨_, .assign _, _, _, _, _⟩ _ _ _; refine A2 hG Y Y ?_)
      | (show AOp _ _ ⟨_, .call ⟨.builtin .len, _, _⟩, _, _, _, _⟩ _ _ _; first | refine Bz hG Y Y Y Y ?_ | refine r_len hG Y Y Y Y Y ?_)
      | (show AOp _ _ ⟨_, .convert _ _ _, _, _, _, _⟩ _ _ _; first | refine r_cv_u64 hG Y Y Y Y Y (by omega) ?_ | refine r_cvw hG Y Y Y Y Y ?_)
      | (show AOp _ _ ⟨_, .call ⟨.value _, _, _⟩, _, _, _, _⟩ _ _ _; first | refine Bp Y Y Y Y Y (by apply h1 <;> (first | assumption | omega | exact Am _ _ | exact A0 _ | exact A1 _ _ | exact Bc _ | rfl | (simp; omega))) ?_ | refine r_row Y Y Y Y Y (List.Perm.refl _) h2 (by assumption) ?_ | fail)
      | refine r_q hG Y Y Y ?_))
    | (show AL _ _ _ _ _ _ _ _; first | refine Bk Y Y Y ?_ | (refine As ?_; first | show AW _ _ _ _ _ _ | show ∃ x', _ < _ ∧ _)) | (show AW _ _ (.seq _ _) _ _ _; refine Ag ?_; intro Q1) | (show AW _ _ (.region _ _ false) _ _ _; refine Ac ?_; intro O1) | (show AW _ _ (.ret) _ _ _; refine Au ?_; try dsimp only [Az, Ab, A4, Af]) | fail)
  (first | refine As ?_ | skip)
  refine ret_rowE 0 Bj ?_ (.refl _) ?_ <;> rfl
end Go.Proofs.Ytnmpgipfbbilbaa
namespace Go.Proofs.Ytnmpgipfbbilbaa
open Go.Ts
attribute [local irreducible] Go.Ts.AW Go.Ts.AOps Go.Ts.AL Go.Ts.AOp Go.Ts.ACalls Go.Ts.DL
def lT (l : List (List UInt8)) : T := .sl 1 .no (l.map sT)
instance : Enc lT 1 := ⟨fun x c h => by simp [lT, T.cells] at h; subst h; rfl, fun x => rfl⟩

theorem take_getD {α : Type} [Inhabited α] (l : List α) (i : Nat) (h : i < l.length) : l.take (i + 1) = l.take i ++ [l.getD i default] := by
  rw [List.take_succ_eq_append_getElem h]; simp [List.getElem?_eq_getElem h]

end Go.Proofs.Ytnmpgipfbbilbaa
namespace Go.Proofs.Ytnmpgipfbbilbaa
open Go.Ts
attribute [local irreducible] Go.Ts.AW Go.Ts.AOps Go.Ts.AL Go.Ts.AOp Go.Ts.ACalls Go.Ts.DL
theorem beV2 (b : List UInt8) (h : 2 ≤ b.length) : beV (b.take 2) < 65536 := by have := beV_lt 2 (b.take 2) (by simp; omega); simpa using this
theorem takeE2 (b : List UInt8) : takeE b 2 = if b.length < 2 then (0, 3) else (beV (b.take 2), 0) := by
  unfold takeE
  rw [if_neg (by omega)]
  by_cases h : b.length < 2
  · rw [if_pos (by omega), if_pos h]
  · rw [if_neg (by omega), if_neg h]; rfl

end Go.Proofs.Ytnmpgipfbbilbaa
namespace Go.Proofs.Ytnmpgipfbbilbaa
open Go.Ts Go.Sets
attribute [local irreducible] Go.Ts.AW Go.Ts.AOps Go.Ts.AL Go.Ts.AOp Go.Ts.ACalls Go.Ts.DL
theorem drop_tok {k : Nat} {R' : List Nat} {off : Nat → Nat → Prop} : Go.Ts.GStep ⟨[], k :: R', off, none⟩ ⟨[], [k], off, none⟩ :=
  keep_step (σ := ⟨[], k :: R', off, none⟩) (List.Sublist.refl _) (List.singleton_sublist.2 (by simp))
theorem num_Take_is {x : T} {b : List UInt8} {n e : Int} {v : Nat} (hx : bytesT x = some b) (h : takeE b n = (v, e)) : Pure Try.prog 32 [x, .int .i64 n] (.tup [.int .u64 v, .int .i64 e]) := by
  have := num_Take (n := n) hx; rw [h] at this; exact this
theorem rises_adj : ∀ l : List UInt16, risesB l = true ↔ ∀ j, j + 1 < l.length → l.getD j default < l.getD (j + 1) default
  | [] => by simp [risesB]
  | [x] => by simp [risesB]
  | x :: y :: r => by
    rw [risesB, Bool.and_eq_true, decide_eq_true_eq, rises_adj (y :: r)]
    constructor
    · rintro ⟨h1, h2⟩ j hj
      cases j with
      | zero => simpa using h1
      | succ j => have := h2 j (by simp at hj ⊢; omega); simpa using this
    · intro h
      refine ⟨by have := h 0 (by simp); simpa using this, fun j hj => ?_⟩
      have := h (j + 1) (by simp at hj ⊢; omega); simpa using this

structure RiX (a : List UInt16) where
  i : Nat
  hi : 1 ≤ i
  hp : ∀ j, j + 1 < i → j + 1 < a.length → a.getD j default < a.getD (j + 1) default
theorem cats_rises {x : T} {a : List UInt16} (hx : catsT x = some a) (hl : a.length ≤ 140737488351232) : Pure Try.prog 27 [x] (.bool (risesB a)) := by
  refine Pure.weak (us := [cT a]) ?_ (wk1 (catsT_wk hx))
  intro off
  refine Bs (N := 20) (rs := [.tmp 2]) hG Try.func27 rfl rfl rfl rfl rfl ?_
  repeat' (first
    | ((first | (show AL _ _ _ _ _ _ _ _; refine Ae Y ?_) | (show DL _ _ _ _ _ _ _; refine' Aw Y Y (fun K kk => ?_) ?_; try (show Go.Ts.T; rotate_left))); (first
      | (show AOp _ _ ⟨_, .move _, _, _, _, _⟩ _ _ _; refine Ar hG Y Y ?_)
      | (show AOp _ _ ⟨_, .assign _, _, _, _, _⟩ _ _ _; refine A2 hG Y Y ?_)
      | (show AOp _ _ ⟨_, .call ⟨.builtin .len, _, _⟩, _, _, _, _⟩ _ _ _; first | refine Bz hG Y Y Y Y ?_ | refine r_len hG Y Y Y Y Y ?_)
      | (show AOp _ _ ⟨_, .binOp .add _ _ _ _, _, _, _, _⟩ _ _ _; first | refine Aa hG Y Y Y Y Y (by omega) ?_)
      | (show AOp _ _ ⟨_, .binOp .sub _ _ _ _, _, _, _, _⟩ _ _ _; first | refine Aa hG Y Y Y Y Y (by omega) ?_)
      | (show AOp _ _ ⟨_, .binOp _ _ _ _ _, _, _, _, _⟩ _ _ _; first | refine Ax hG Y Y Y Y Y (by omega) ?_ | refine Ay hG Y Y Y Y Y (by omega) ?_ | ((fail_if_success have := kk); refine Ak hG Y Y Y Y Y (fun h => ?_) (fun h => ?_)))
      | (show AOp _ _ ⟨_, .load _ _, _, _, _, _⟩ _ _ _; first | refine A8 hG Y Y Y ?_ | refine Bn 0 hG Y Y Y Y ?_)
      | (show AOp _ _ ⟨_, .indexAddr _ _ _, _, _, _, _⟩ _ _ _; first | refine A6 hG Y Y Y Y Y Y Y (by omega) ?_ | refine A7 hG Y Y Y Y Y Y Y (by omega) ?_ | refine Bg hG Y Y ?_)
      | refine r_q hG Y Y Y ?_); try exact kk)
    | (show AL _ _ _ _ _ _ _ _; first | refine Bk Y Y Y ?_ | (refine As ?_; first | show AW _ _ _ _ _ _ | show ∃ x', _ < _ ∧ _)) | (show AW _ _ (.seq _ _) _ _ _; refine Ag ?_; intro Q1) | (show AW _ _ (.region _ _ false) _ _ _; refine Ac ?_; intro O1) | (show AW _ _ (.cond _ _ _) _ _ _; first | refine Ao Y ?_ | refine Ap Y ?_) | (show AW _ _ (.skip) _ _ _; refine Aj ?_; first | show AW _ _ _ _ _ _ | show ∃ x', _ < _ ∧ _) | (show AW _ _ (.goto _) _ _ _; refine aw_goto ?_; try dsimp only [Az, Ab, A4, Af]) | (show AW _ _ (.ret) _ _ _; refine Au ?_; try dsimp only [Az, Ab, A4, Af])
    | (show DL _ _ _ _ _ _ _; refine Bq Y Y (fun K kt kf => Ak hG Y Y Y Y Y kt kf) (fun h => ?_) (fun h => ?_))
    | (show DL _ _ _ _ _ _ _; refine Br Y Y Y ?_) | (show DL _ _ _ _ _ _ _; refine A9 ?_; first | show AW _ _ _ _ _ _ | show ∃ x', _ < _ ∧ _) | (show AW _ _ (.region _ _ true) _ _ _; refine Aq mix (by kernel_rfl) ?_; intro O1) | fail)
  refine aw_scope' 0 rfl (X := RiX a) (fun x => [(0, cT a), (3, .int .i64 x.i)]) (fun x => ⟨[], [], off, none⟩) (fun x => a.length - x.i) ?_ ?_
  · rintro ⟨i, hi, hp⟩
    dsimp only
    obtain ⟨i, rfl⟩ : ∃ j, i = j + 1 := ⟨i - 1, by omega⟩
    by_cases hib : i + 1 < a.length
    · have e : (((i + 1 : Nat) : Int) - 1).toNat = i := by omega
      repeat' (first
    | ((first | (show AL _ _ _ _ _ _ _ _; refine Ae Y ?_) | (show DL _ _ _ _ _ _ _; refine' Aw Y Y (fun K kk => ?_) ?_; try (show Go.Ts.T; rotate_left))); (first
      | (show AOp _ _ ⟨_, .move _, _, _, _, _⟩ _ _ _; refine Ar hG Y Y ?_)
      | (show AOp _ _ ⟨_, .assign _, _, _, _, _⟩ _ _ _; refine A2 hG Y Y ?_)
      | (show AOp _ _ ⟨_, .call ⟨.builtin .len, _, _⟩, _, _, _, _⟩ _ _ _; first | refine Bz hG Y Y Y Y ?_ | refine r_len hG Y Y Y Y Y ?_)
      | (show AOp _ _ ⟨_, .binOp .add _ _ _ _, _, _, _, _⟩ _ _ _; first | refine Aa hG Y Y Y Y Y (by omega) ?_)
      | (show AOp _ _ ⟨_, .binOp .sub _ _ _ _, _, _, _, _⟩ _ _ _; first | refine Aa hG Y Y Y Y Y (by omega) ?_)
      | (show AOp _ _ ⟨_, .binOp _ _ _ _ _, _, _, _, _⟩ _ _ _; first | refine Ax hG Y Y Y Y Y (by omega) ?_ | refine Ay hG Y Y Y Y Y (by omega) ?_ | ((fail_if_success have := kk); refine Ak hG Y Y Y Y Y (fun h => ?_) (fun h => ?_)))
      | (show AOp _ _ ⟨_, .load _ _, _, _, _, _⟩ _ _ _; first | refine A8 hG Y Y Y ?_ | refine Bn 0 hG Y Y Y Y ?_)
      | (show AOp _ _ ⟨_, .indexAddr _ _ _, _, _, _, _⟩ _ _ _; first | refine A6 hG Y Y Y Y Y Y Y (by omega) ?_ | refine A7 hG Y Y Y Y Y Y Y (by omega) ?_ | refine Bg hG Y Y ?_)
      | refine r_q hG Y Y Y ?_); try exact kk)
    | (show AL _ _ _ _ _ _ _ _; first | refine Bk Y Y Y ?_ | (refine As ?_; first | show AW _ _ _ _ _ _ | show ∃ x', _ < _ ∧ _)) | (show AW _ _ (.seq _ _) _ _ _; refine Ag ?_; intro Q1) | (show AW _ _ (.region _ _ false) _ _ _; refine Ac ?_; intro O1) | (show AW _ _ (.cond _ _ _) _ _ _; first | refine Ao Y ?_ | refine Ap Y ?_) | (show AW _ _ (.skip) _ _ _; refine Aj ?_; first | show AW _ _ _ _ _ _ | show ∃ x', _ < _ ∧ _) | (show AW _ _ (.goto _) _ _ _; refine aw_goto ?_; try dsimp only [Az, Ab, A4, Af]) | (show AW _ _ (.ret) _ _ _; refine Au ?_; try dsimp only [Az, Ab, A4, Af])
    | (show DL _ _ _ _ _ _ _; refine Bq Y Y (fun K kt kf => Ak hG Y Y Y Y Y kt kf) (fun h => ?_) (fun h => ?_))
    | (show DL _ _ _ _ _ _ _; refine Br Y Y Y ?_) | (show DL _ _ _ _ _ _ _; refine A9 ?_; first | show AW _ _ _ _ _ _ | show ∃ x', _ < _ ∧ _) | (show AW _ _ (.region _ _ true) _ _ _; refine Aq mix (by kernel_rfl) ?_; intro O1) | fail)
      · rw [e] at h
        refine B0 (Bi rfl Bj) (.eq ?_) rfl
        have : risesB a = false := Bool.eq_false_iff.2 fun hr => by
          have := (rises_adj a).1 hr i hib
          rw [UInt16.lt_iff_toNat_lt] at this; omega
        rw [this]; rfl
      · rw [e] at h
        refine ⟨rfl, ⟨i + 2, by omega, fun j h1 h2 => ?_⟩, by dsimp only; omega, ?_, .refl _⟩
        · by_cases hj : j + 1 < i + 1
          · exact hp j hj h2
          · obtain rfl : j = i := by omega
            rw [UInt16.lt_iff_toNat_lt]; omega
        · exact .cons rfl (.consW rfl (.int (by simp; omega)) (.nil _))
    · repeat' (first
    | ((first | (show AL _ _ _ _ _ _ _ _; refine Ae Y ?_) | (show DL _ _ _ _ _ _ _; refine' Aw Y Y (fun K kk => ?_) ?_; try (show Go.Ts.T; rotate_left))); (first
      | (show AOp _ _ ⟨_, .move _, _, _, _, _⟩ _ _ _; refine Ar hG Y Y ?_)
      | (show AOp _ _ ⟨_, .assign _, _, _, _, _⟩ _ _ _; refine A2 hG Y Y ?_)
      | (show AOp _ _ ⟨_, .call ⟨.builtin .len, _, _⟩, _, _, _, _⟩ _ _ _; first | refine Bz hG Y Y Y Y ?_ | refine r_len hG Y Y Y Y Y ?_)
      | (show AOp _ _ ⟨_, .binOp .add _ _ _ _, _, _, _, _⟩ _ _ _; first | refine Aa hG Y Y Y Y Y (by omega) ?_)
      | (show AOp _ _ ⟨_, .binOp .sub _ _ _ _, _, _, _, _⟩ _ _ _; first | refine Aa hG Y Y Y Y Y (by omega) ?_)
      | (show AOp _ _ ⟨_, .binOp _ _ _ _ _, _, _, _, _⟩ _ _ _; first | refine Ax hG Y Y Y Y Y (by omega) ?_ | refine Ay hG Y Y Y Y Y (by omega) ?_ | ((fail_if_success have := kk); refine Ak hG Y Y Y Y Y (fun h => ?_) (fun h => ?_)))
      | (show AOp _ _ ⟨_, .load _ _, _, _, _, _⟩ _ _ _; first | refine A8 hG Y Y Y ?_ | refine Bn 0 hG Y Y Y Y ?_)
      | (show AOp _ _ ⟨_, .indexAddr _ _ _, _, _, _, _⟩ _ _ _; first | refine A6 hG Y Y Y Y Y Y Y (by omega) ?_ | refine A7 hG Y Y Y Y Y Y Y (by omega) ?_ | refine Bg hG Y Y ?_)
      | refine r_q hG Y Y Y ?_); try exact kk)
    | (show AL _ _ _ _ _ _ _ _; first | refine Bk Y Y Y ?_ | (refine As ?_; first | show AW _ _ _ _ _ _ | show ∃ x', _ < _ ∧ _)) | (show AW _ _ (.seq _ _) _ _ _; refine Ag ?_; intro Q1) | (show AW _ _ (.region _ _ false) _ _ _; refine Ac ?_; intro O1) | (show AW _ _ (.cond _ _ _) _ _ _; first | refine Ao Y ?_ | refine Ap Y ?_) | (show AW _ _ (.skip) _ _ _; refine Aj ?_; first | show AW _ _ _ _ _ _ | show ∃ x', _ < _ ∧ _) | (show AW _ _ (.goto _) _ _ _; refine aw_goto ?_; try dsimp only [Az, Ab, A4, Af]) | (show AW _ _ (.ret) _ _ _; refine Au ?_; try dsimp only [Az, Ab, A4, Af])
    | (show DL _ _ _ _ _ _ _; refine Bq Y Y (fun K kt kf => Ak hG Y Y Y Y Y kt kf) (fun h => ?_) (fun h => ?_))
    | (show DL _ _ _ _ _ _ _; refine Br Y Y Y ?_) | (show DL _ _ _ _ _ _ _; refine A9 ?_; first | show AW _ _ _ _ _ _ | show ∃ x', _ < _ ∧ _) | (show AW _ _ (.region _ _ true) _ _ _; refine Aq mix (by kernel_rfl) ?_; intro O1) | fail)
      refine B0 (Bi rfl Bj) (.eq ?_) rfl
      have : risesB a = true := (rises_adj a).2 fun j hj => hp j (by omega) hj
      rw [this]; rfl
  · intro key
    repeat' (first
    | ((first | (show AL _ _ _ _ _ _ _ _; refine Ae Y ?_) | (show DL _ _ _ _ _ _ _; refine' Aw Y Y (fun K kk => ?_) ?_; try (show Go.Ts.T; rotate_left))); (first
      | (show AOp _ _ ⟨_, .move _, _, _, _, _⟩ _ _ _; refine Ar hG Y Y ?_)
      | (show AOp _ _ ⟨_, .assign _, _, _, _, _⟩ _ _ _; refine A2 hG Y Y ?_)
      | (show AOp _ _ ⟨_, .call ⟨.builtin .len, _, _⟩, _, _, _, _⟩ _ _ _; first | refine Bz hG Y Y Y Y ?_ | refine r_len hG Y Y Y Y Y ?_)
      | (show AOp _ _ ⟨_, .binOp .add _ _ _ _, _, _, _, _⟩ _ _ _; first | refine Aa hG Y Y Y Y Y (by omega) ?_)
      | (show AOp _ _ ⟨_, .binOp .sub _ _ _ _, _, _, _, _⟩ _ _ _; first | refine Aa hG Y Y Y Y Y (by omega) ?_)
      | (show AOp _ _ ⟨_, .binOp _ _ _ _ _, _, _, _, _⟩ _ _ _; first | refine Ax hG Y Y Y Y Y (by omega) ?_ | refine Ay hG Y Y Y Y Y (by omega) ?_ | ((fail_if_success have := kk); refine Ak hG Y Y Y Y Y (fun h => ?_) (fun h => ?_)))
      | (show AOp _ _ ⟨_, .load _ _, _, _, _, _⟩ _ _ _; first | refine A8 hG Y Y Y ?_ | refine Bn 0 hG Y Y Y Y ?_)
      | (show AOp _ _ ⟨_, .indexAddr _ _ _, _, _, _, _⟩ _ _ _; first | refine A6 hG Y Y Y Y Y Y Y (by omega) ?_ | refine A7 hG Y Y Y Y Y Y Y (by omega) ?_ | refine Bg hG Y Y ?_)
      | refine r_q hG Y Y Y ?_); try exact kk)
    | (show AL _ _ _ _ _ _ _ _; first | refine Bk Y Y Y ?_ | (refine As ?_; first | show AW _ _ _ _ _ _ | show ∃ x', _ < _ ∧ _)) | (show AW _ _ (.seq _ _) _ _ _; refine Ag ?_; intro Q1) | (show AW _ _ (.region _ _ false) _ _ _; refine Ac ?_; intro O1) | (show AW _ _ (.cond _ _ _) _ _ _; first | refine Ao Y ?_ | refine Ap Y ?_) | (show AW _ _ (.skip) _ _ _; refine Aj ?_; first | show AW _ _ _ _ _ _ | show ∃ x', _ < _ ∧ _) | (show AW _ _ (.goto _) _ _ _; refine aw_goto ?_; try dsimp only [Az, Ab, A4, Af]) | (show AW _ _ (.ret) _ _ _; refine Au ?_; try dsimp only [Az, Ab, A4, Af])
    | (show DL _ _ _ _ _ _ _; refine Bq Y Y (fun K kt kf => Ak hG Y Y Y Y Y kt kf) (fun h => ?_) (fun h => ?_))
    | (show DL _ _ _ _ _ _ _; refine Br Y Y Y ?_) | (show DL _ _ _ _ _ _ _; refine A9 ?_; first | show AW _ _ _ _ _ _ | show ∃ x', _ < _ ∧ _) | (show AW _ _ (.region _ _ true) _ _ _; refine Aq mix (by kernel_rfl) ?_; intro O1) | fail)
    refine aw_label ?_
    show AW _ _ _ _ _ _
    refine aw_forget ?_ (key ⟨1, by omega, fun j h1 h2 => by omega⟩)
    exact .cons rfl (.consW rfl (.int rfl) (.nil _))
def mayC (a : List UInt16) : Bool := decide (a.length ≤ 16) && risesB a
theorem cats_May {x : T} {a : List UInt16} (hx : catsT x = some a) (hl : a.length ≤ 140737488351232) : Pure Try.prog 9 [x] (.bool (mayC a)) := by
  refine Pure.weak (us := [cT a]) ?_ (wk1 (catsT_wk hx))
  intro off
  refine Bs (N := 10) (rs := [.tmp 2]) hG Try.func9 rfl rfl rfl rfl rfl ?_
  by_cases h : a.length ≤ 16
  · repeat' (first
    | ((show AL _ _ _ _ _ _ _ _; refine Ae Y ?_); (first
      | (show AOp _ _ ⟨_, .move _, _, _, _, _⟩ _ _ _; refine Ar hG Y Y ?_)
      | (show AOp _ _ ⟨_, .assign _, _, _, _, _⟩ _ _ _; refine A2 hG Y Y ?_)
      | (show AOp _ _ ⟨_, .call ⟨.builtin .len, _, _⟩, _, _, _, _⟩ _ _ _; first | refine Bz hG Y Y Y Y ?_ | refine r_len hG Y Y Y Y Y ?_)
      | (show AOp _ _ ⟨_, .binOp _ _ _ _ _, _, _, _, _⟩ _ _ _; first | refine Ax hG Y Y Y Y Y (by omega) ?_ | refine Ay hG Y Y Y Y Y (by omega) ?_ | (refine Ak hG Y Y Y Y Y (fun h => ?_) (fun h => ?_)))
      | (show AOp _ _ ⟨_, .pick _ _ _, _, _, _, _⟩ _ _ _; refine Ba hG Y Y Y ?_)
      | (show AOp _ _ ⟨_, .call ⟨.value _, _, _⟩, _, _, _, _⟩ _ _ _; first | refine Bp Y Y Y Y Y (by apply cats_rises <;> (first | assumption | omega | exact Am _ _ | exact A0 _ | exact A1 _ _ | exact Bc _ | rfl | (simp; omega))) ?_ | fail)
      | refine r_q hG Y Y Y ?_))
    | (show AL _ _ _ _ _ _ _ _; first | refine Bk Y Y Y ?_ | (refine As ?_; first | show AW _ _ _ _ _ _ | show ∃ x', _ < _ ∧ _)) | (show AW _ _ (.seq _ _) _ _ _; refine Ag ?_; intro Q1) | (show AW _ _ (.region _ _ false) _ _ _; refine Ac ?_; intro O1) | (show AW _ _ (.ret) _ _ _; refine Au ?_; try dsimp only [Az, Ab, A4, Af]) | fail)
    exact B0 (Bi rfl Bj) (.eq (by simp [mayC, h, tup1])) rfl
  · repeat' (first
    | ((show AL _ _ _ _ _ _ _ _; refine Ae Y ?_); (first
      | (show AOp _ _ ⟨_, .move _, _, _, _, _⟩ _ _ _; refine Ar hG Y Y ?_)
      | (show AOp _ _ ⟨_, .assign _, _, _, _, _⟩ _ _ _; refine A2 hG Y Y ?_)
      | (show AOp _ _ ⟨_, .call ⟨.builtin .len, _, _⟩, _, _, _, _⟩ _ _ _; first | refine Bz hG Y Y Y Y ?_ | refine r_len hG Y Y Y Y Y ?_)
      | (show AOp _ _ ⟨_, .binOp _ _ _ _ _, _, _, _, _⟩ _ _ _; first | refine Ax hG Y Y Y Y Y (by omega) ?_ | refine Ay hG Y Y Y Y Y (by omega) ?_ | (refine Ak hG Y Y Y Y Y (fun h => ?_) (fun h => ?_)))
      | (show AOp _ _ ⟨_, .pick _ _ _, _, _, _, _⟩ _ _ _; refine Ba hG Y Y Y ?_)
      | (show AOp _ _ ⟨_, .call ⟨.value _, _, _⟩, _, _, _, _⟩ _ _ _; first | refine Bp Y Y Y Y Y (by apply cats_rises <;> (first | assumption | omega | exact Am _ _ | exact A0 _ | exact A1 _ _ | exact Bc _ | rfl | (simp; omega))) ?_ | fail)
      | refine r_q hG Y Y Y ?_))
    | (show AL _ _ _ _ _ _ _ _; first | refine Bk Y Y Y ?_ | (refine As ?_; first | show AW _ _ _ _ _ _ | show ∃ x', _ < _ ∧ _)) | (show AW _ _ (.seq _ _) _ _ _; refine Ag ?_; intro Q1) | (show AW _ _ (.region _ _ false) _ _ _; refine Ac ?_; intro O1) | (show AW _ _ (.ret) _ _ _; refine Au ?_; try dsimp only [Az, Ab, A4, Af]) | fail)
    refine B0 (Bi rfl Bj) (.eq ?_) rfl
    rw [mayC, decide_eq_false h]; rfl

def putC (b : List UInt8) (a : List UInt16) : List UInt8 := b ++ putI a.length 1 ++ a.flatMap fun c => putI c.toNat 2
theorem flat2_length (l : List UInt16) : (l.flatMap fun c => putI c.toNat 2).length = 2 * l.length := by
  induction l with
  | nil => rfl
  | cons x l ih =>
    have : (putI x.toNat 2).length = 2 := by rw [putI, if_pos (by omega), be_length]; rfl
    rw [List.flatMap_cons, List.length_append, ih, this, List.length_cons]; omega
theorem flatMap_take {α β : Type} [Inhabited α] (l : List α) (f : α → List β) (i : Nat) (h : i < l.length) : (l.take (i + 1)).flatMap f = (l.take i).flatMap f ++ f (l.getD i default) := by
  rw [take_getD l i h, List.flatMap_append]; simp
structure CPX (a : List UInt16) where
  i : Nat
  k : Nat
  hi : i ≤ a.length
theorem cats_Put {x y : T} {b : List UInt8} {a : List UInt16} (hx : bytesT x = some b) (hy : catsT y = some a) (hl : b.length ≤ 4294000000) (hs : a.length ≤ 70000) :
    Owns Try.prog 14 [x, y] 1 ((putC b a).map bT) := by
  refine Owns.weak (us := [sT b, cT a]) ?_ (wk2 (bytesT_wk hx) (catsT_wk hy))
  intro off
  refine Bs (N := 25) (rs := [.tmp 4]) hG Try.func14 rfl rfl rfl rfl rfl ?_
  have hpl := putI_le a.length 1
  repeat' (first
    | ((show AL _ _ _ _ _ _ _ _; refine Ae Y ?_); (first
      | (show AOp _ _ ⟨_, .move _, _, _, _, _⟩ _ _ _; refine Ar hG Y Y ?_)
      | (show AOp _ _ ⟨_, .assign _, _, _, _, _⟩ _ _ _; refine A2 hG Y Y ?_)
      | (show AOp _ _ ⟨_, .call ⟨.builtin .len, _, _⟩, _, _, _, _⟩ _ _ _; first | refine Bz hG Y Y Y Y ?_ | refine r_len hG Y Y Y Y Y ?_)
      | (show AOp _ _ ⟨_, .binOp .add _ _ _ _, _, _, _, _⟩ _ _ _; first | refine Aa hG Y Y Y Y Y (by omega) ?_)
      | (show AOp _ _ ⟨_, .binOp _ _ _ _ _, _, _, _, _⟩ _ _ _; first | refine Ax hG Y Y Y Y Y (by omega) ?_ | refine Ay hG Y Y Y Y Y (by omega) ?_ | (refine Ak hG Y Y Y Y Y (fun h => ?_) (fun h => ?_)))
      | (show AOp _ _ ⟨_, .load _ _, _, _, _, _⟩ _ _ _; first | refine A8 hG Y Y Y ?_ | refine Bn 0 hG Y Y Y Y ?_)
      | (show AOp _ _ ⟨_, .indexAddr _ _ _, _, _, _, _⟩ _ _ _; first | refine A6 hG Y Y Y Y Y Y Y (by omega) ?_ | refine A7 hG Y Y Y Y Y Y Y (by omega) ?_ | refine Bg hG Y Y ?_)
      | (show AOp _ _ ⟨_, .convert _ _ _, _, _, _, _⟩ _ _ _; first | refine r_cv16 hG Y Y Y Y Y Y ?_ | refine r_cv_u64 hG Y Y Y Y Y (by omega) ?_ | refine r_cvw hG Y Y Y Y Y ?_)
      | (show AOp _ _ ⟨_, .call ⟨.value _, _, _⟩, _, _, _, _⟩ _ _ _; first | (refine r_owns Y Y Y Y Y (by apply num_Put <;> (first | assumption | omega | exact Am _ _ | exact A0 _ | exact A1 _ _ | exact Bc _ | rfl | (simp; omega))) (fun k => ?_)) | (have := kk; clear this; refine Bp Y Y Y Y Y (Owns.pure (by apply num_Put <;> (first | assumption | omega | exact Am _ _ | exact A0 _ | exact A1 _ _ | exact Bc _ | rfl | (simp; omega)))) ?_) | fail)
      | refine r_q hG Y Y Y ?_))
    | (show AL _ _ _ _ _ _ _ _; first | refine Bk Y Y Y ?_ | (refine As ?_; first | show AW _ _ _ _ _ _ | show ∃ x', _ < _ ∧ _)) | (show AW _ _ (.seq _ _) _ _ _; refine Ag ?_; intro Q1) | (show AW _ _ (.region _ _ false) _ _ _; refine Ac ?_; intro O1) | (show AW _ _ (.cond _ _ _) _ _ _; first | refine Ao Y ?_ | refine Ap Y ?_) | (show AW _ _ (.skip) _ _ _; refine Aj ?_; first | show AW _ _ _ _ _ _ | show ∃ x', _ < _ ∧ _) | (show AW _ _ (.block _ _) _ _ _; refine Al ?_; intro Q1) | (show AW _ _ (.exit _) _ _ _; refine Av ?_; first | show AW _ _ _ _ _ _ | show ∃ x', _ < _ ∧ _) | (show AW _ _ (.ret) _ _ _; refine Au ?_; try dsimp only [Az, Ab, A4, Af]) | fail)
  refine aw_loop (X := CPX a) (fun x => [(13, cT a), (14, .int .i64 a.length), (15, .int .i64 x.i), (5, .sl 1 (.tok x.k) ((b ++ putI a.length 1 ++ (a.take x.i).flatMap fun c => putI c.toNat 2).map bT))]) (fun x => ⟨[], [x.k], off, none⟩) (fun x => a.length - x.i) ⟨0, _, Nat.zero_le _⟩ ?_ (.refl _) ?_
  · exact .cons rfl (.cons rfl (.consW rfl (.int rfl) (.consW rfl (.eq (by simp)) (.nil _))))
  rintro ⟨i, k, hi⟩
  dsimp only
  have hf := flat2_length (a.take i)
  have htl : (a.take i).length = i := by rw [List.length_take]; omega
  by_cases hib : i < a.length
  · have hft := flatMap_take a (fun c => putI c.toNat 2) i hib
    have hlen : (b ++ putI a.length 1 ++ (a.take i).flatMap fun c => putI c.toNat 2).length ≤ 4294967000 := by rw [List.length_append, List.length_append]; omega
    repeat' (first
    | ((show AL _ _ _ _ _ _ _ _; refine Ae Y ?_); (first
      | (show AOp _ _ ⟨_, .move _, _, _, _, _⟩ _ _ _; refine Ar hG Y Y ?_)
      | (show AOp _ _ ⟨_, .assign _, _, _, _, _⟩ _ _ _; refine A2 hG Y Y ?_)
      | (show AOp _ _ ⟨_, .call ⟨.builtin .len, _, _⟩, _, _, _, _⟩ _ _ _; first | refine Bz hG Y Y Y Y ?_ | refine r_len hG Y Y Y Y Y ?_)
      | (show AOp _ _ ⟨_, .binOp .add _ _ _ _, _, _, _, _⟩ _ _ _; first | refine Aa hG Y Y Y Y Y (by omega) ?_)
      | (show AOp _ _ ⟨_, .binOp _ _ _ _ _, _, _, _, _⟩ _ _ _; first | refine Ax hG Y Y Y Y Y (by omega) ?_ | refine Ay hG Y Y Y Y Y (by omega) ?_ | (refine Ak hG Y Y Y Y Y (fun h => ?_) (fun h => ?_)))
      | (show AOp _ _ ⟨_, .load _ _, _, _, _, _⟩ _ _ _; first | refine A8 hG Y Y Y ?_ | refine Bn 0 hG Y Y Y Y ?_)
      | (show AOp _ _ ⟨_, .indexAddr _ _ _, _, _, _, _⟩ _ _ _; first | refine A6 hG Y Y Y Y Y Y Y (by omega) ?_ | refine A7 hG Y Y Y Y Y Y Y (by omega) ?_ | refine Bg hG Y Y ?_)
      | (show AOp _ _ ⟨_, .convert _ _ _, _, _, _, _⟩ _ _ _; first | refine r_cv16 hG Y Y Y Y Y Y ?_ | refine r_cv_u64 hG Y Y Y Y Y (by omega) ?_ | refine r_cvw hG Y Y Y Y Y ?_)
      | (show AOp _ _ ⟨_, .call ⟨.value _, _, _⟩, _, _, _, _⟩ _ _ _; first | (refine r_owns Y Y Y Y Y (by apply num_Put <;> (first | assumption | omega | exact Am _ _ | exact A0 _ | exact A1 _ _ | exact Bc _ | rfl | (simp; omega))) (fun k => ?_)) | (have := kk; clear this; refine Bp Y Y Y Y Y (Owns.pure (by apply num_Put <;> (first | assumption | omega | exact Am _ _ | exact A0 _ | exact A1 _ _ | exact Bc _ | rfl | (simp; omega)))) ?_) | fail)
      | refine r_q hG Y Y Y ?_))
    | (show AL _ _ _ _ _ _ _ _; first | refine Bk Y Y Y ?_ | (refine As ?_; first | show AW _ _ _ _ _ _ | show ∃ x', _ < _ ∧ _)) | (show AW _ _ (.seq _ _) _ _ _; refine Ag ?_; intro Q1) | (show AW _ _ (.region _ _ false) _ _ _; refine Ac ?_; intro O1) | (show AW _ _ (.cond _ _ _) _ _ _; first | refine Ao Y ?_ | refine Ap Y ?_) | (show AW _ _ (.skip) _ _ _; refine Aj ?_; first | show AW _ _ _ _ _ _ | show ∃ x', _ < _ ∧ _) | (show AW _ _ (.block _ _) _ _ _; refine Al ?_; intro Q1) | (show AW _ _ (.exit _) _ _ _; refine Av ?_; first | show AW _ _ _ _ _ _ | show ∃ x', _ < _ ∧ _) | (show AW _ _ (.ret) _ _ _; refine Au ?_; try dsimp only [Az, Ab, A4, Af]) | fail)
    refine ⟨⟨i + 1, _, by omega⟩, by dsimp only; omega, ?_, drop_tok⟩
    exact .cons rfl (.cons rfl (.consW rfl (.int (by simp)) (.consW rfl (.eq (by rw [hft]; simp)) (.nil _))))
  · obtain rfl : i = a.length := by omega
    repeat' (first
    | ((show AL _ _ _ _ _ _ _ _; refine Ae Y ?_); (first
      | (show AOp _ _ ⟨_, .move _, _, _, _, _⟩ _ _ _; refine Ar hG Y Y ?_)
      | (show AOp _ _ ⟨_, .assign _, _, _, _, _⟩ _ _ _; refine A2 hG Y Y ?_)
      | (show AOp _ _ ⟨_, .call ⟨.builtin .len, _, _⟩, _, _, _, _⟩ _ _ _; first | refine Bz hG Y Y Y Y ?_ | refine r_len hG Y Y Y Y Y ?_)
      | (show AOp _ _ ⟨_, .binOp .add _ _ _ _, _, _, _, _⟩ _ _ _; first | refine Aa hG Y Y Y Y Y (by omega) ?_)
      | (show AOp _ _ ⟨_, .binOp _ _ _ _ _, _, _, _, _⟩ _ _ _; first | refine Ax hG Y Y Y Y Y (by omega) ?_ | refine Ay hG Y Y Y Y Y (by omega) ?_ | (refine Ak hG Y Y Y Y Y (fun h => ?_) (fun h => ?_)))
      | (show AOp _ _ ⟨_, .load _ _, _, _, _, _⟩ _ _ _; first | refine A8 hG Y Y Y ?_ | refine Bn 0 hG Y Y Y Y ?_)
      | (show AOp _ _ ⟨_, .indexAddr _ _ _, _, _, _, _⟩ _ _ _; first | refine A6 hG Y Y Y Y Y Y Y (by omega) ?_ | refine A7 hG Y Y Y Y Y Y Y (by omega) ?_ | refine Bg hG Y Y ?_)
      | (show AOp _ _ ⟨_, .convert _ _ _, _, _, _, _⟩ _ _ _; first | refine r_cv16 hG Y Y Y Y Y Y ?_ | refine r_cv_u64 hG Y Y Y Y Y (by omega) ?_ | refine r_cvw hG Y Y Y Y Y ?_)
      | refine r_q hG Y Y Y ?_))
    | (show AL _ _ _ _ _ _ _ _; first | refine Bk Y Y Y ?_ | (refine As ?_; first | show AW _ _ _ _ _ _ | show ∃ x', _ < _ ∧ _)) | (show AW _ _ (.seq _ _) _ _ _; refine Ag ?_; intro Q1) | (show AW _ _ (.region _ _ false) _ _ _; refine Ac ?_; intro O1) | (show AW _ _ (.cond _ _ _) _ _ _; first | refine Ao Y ?_ | refine Ap Y ?_) | (show AW _ _ (.skip) _ _ _; refine Aj ?_; first | show AW _ _ _ _ _ _ | show ∃ x', _ < _ ∧ _) | (show AW _ _ (.block _ _) _ _ _; refine Al ?_; intro Q1) | (show AW _ _ (.exit _) _ _ _; refine Av ?_; first | show AW _ _ _ _ _ _ | show ∃ x', _ < _ ∧ _) | (show AW _ _ (.ret) _ _ _; refine Au ?_; try dsimp only [Az, Ab, A4, Af]) | fail)
    exact ret_owns 0 (Bi rfl Bj) rfl (by rw [putC, List.take_length]) rfl

def takeC (b : List UInt8) : List UInt16 × Nat × Int :=
  if b.length < 1 then ([], 0, 3)
  else if b.length < 1 + 2 * beV (b.take 1) then ([], 0, 3)
  else if mayC ((List.range (beV (b.take 1))).map fun i => UInt16.ofNat (beV ((b.drop (1 + 2 * i)).take 2))) then
    ((List.range (beV (b.take 1))).map fun i => UInt16.ofNat (beV ((b.drop (1 + 2 * i)).take 2)), 1 + 2 * beV (b.take 1), 0)
  else ([], 0, 2)
def tcT (r : List UInt16 × Nat × Int) : T := .tup [cT r.1, .int .i64 r.2.1, .int .i64 r.2.2]
theorem takeE1 (b : List UInt8) : takeE b 1 = if b.length < 1 then (0, 3) else (beV (b.take 1), 0) := by
  unfold takeE
  rw [if_neg (by omega)]
  by_cases h : b.length < 1
  · rw [if_pos (by omega), if_pos h]
  · rw [if_neg (by omega), if_neg h]; rfl
theorem beV1 (b : List UInt8) (h : 1 ≤ b.length) : beV (b.take 1) < 256 := by have := beV_lt 1 (b.take 1) (by simp; omega); simpa using this
theorem hT_of (v : Nat) (h : v < 65536) : T.int .u16 (v : Int) = hT (UInt16.ofNat v) := by
  unfold hT; congr 1
  simp [UInt16.toNat_ofNat']; omega
structure TCX (n : Nat) where
  i : Nat
  k : Nat
  hi : i ≤ n
theorem cats_Take {x : T} {b : List UInt8} (hx : bytesT x = some b) (hl : b.length ≤ 4294967296) : Pure Try.prog 15 [x] (tcT (takeC b)) := by
  refine Pure.weak (us := [sT b]) ?_ (wk1 (bytesT_wk hx))
  intro off
  refine Bs (N := 50) (rs := [.tmp 2, .tmp 3, .tmp 4]) hG Try.func15 rfl rfl rfl rfl rfl ?_
  have hT1 := takeE1 b
  by_cases h1 : b.length < 1
  · rw [if_pos h1] at hT1
    have hr : takeC b = ([], 0, 3) := by rw [takeC, if_pos h1]
    have hc := num_Take_is (A0 b) hT1
    rw [hr]
    repeat' (first
    | ((show AL _ _ _ _ _ _ _ _; refine Ae Y ?_); (first
      | (show AOp _ _ ⟨_, .move _, _, _, _, _⟩ _ _ _; refine Ar hG Y Y ?_)
      | (show AOp _ _ ⟨_, .assign _, _, _, _, _⟩ _ _ _; refine A2 hG Y Y ?_)
      | (show AOp _ _ ⟨_, .call ⟨.builtin .len, _, _⟩, _, _, _, _⟩ _ _ _; first | refine Bz hG Y Y Y Y ?_ | refine r_len hG Y Y Y Y Y ?_)
      | (show AOp _ _ ⟨_, .binOp .add _ _ _ _, _, _, _, _⟩ _ _ _; first | refine Aa hG Y Y Y Y Y (by omega) ?_)
      | (show AOp _ _ ⟨_, .binOp .mul _ _ _ _, _, _, _, _⟩ _ _ _; first | refine Aa hG Y Y Y Y Y (by omega) ?_)
      | (show AOp _ _ ⟨_, .binOp _ _ _ _ _, _, _, _, _⟩ _ _ _; first | refine Ax hG Y Y Y Y Y (by omega) ?_ | refine Ay hG Y Y Y Y Y (by omega) ?_ | (refine Ak hG Y Y Y Y Y (fun h => ?_) (fun h => ?_)))
      | (show AOp _ _ ⟨_, .convert _ _ _, _, _, _, _⟩ _ _ _; first | refine r_cv_i64 hG Y Y Y Y Y (by omega) ?_ | refine r_cv_u16 hG Y Y Y Y Y (by omega) ?_ | refine r_cvw hG Y Y Y Y Y ?_)
      | (show AOp _ _ ⟨_, .slice _ _ _ _ _, _, _, _, _⟩ _ _ _; first | refine r_sl_lon hG Y Y Y Y Y Y Y (by omega) ?_ | refine r_sl_lo hG Y Y Y Y Y Y Y (by omega) ?_ | refine r_sl hG Y Y ?_)
      | (show AOp _ _ ⟨_, .unOp _ _ _, _, _, _, _⟩ _ _ _; refine Bm hG Y Y Y ?_)
      | (show AOp _ _ ⟨_, .buildSlice _ _ _, _, _, _, _⟩ _ _ _; first | refine r_mk (sz := 1) hG Y Y Y Y Y Y Y ?_)
      | (show AOp _ _ ⟨_, .call ⟨.builtin .append, _, _⟩, _, _, _, _⟩ _ _ _; first | refine B7 (sz := 1) (xs := []) hG Y Y Y Y Y Y Y ⟨_, Y⟩ Y Y Y Y Y Y Y (by first | omega | (simp; omega)) (fun k => ?_) | refine Ca 0 hG Y Y Y Y Y Y Y ⟨_, Y⟩ Y Y Y Y Y (by first | omega | (simp only [List.length_append, List.length_cons, List.length_nil]; omega)) (fun k => ?_) | fail)
      | (show AOp _ _ ⟨_, .call ⟨.value _, _, _⟩, _, _, _, _⟩ _ _ _; first | refine Bp Y Y Y Y Y (by apply hc <;> (first | assumption | omega | exact Am _ _ | exact A0 _ | exact A1 _ _ | exact Bc _ | rfl | (simp; omega))) ?_ | fail)
      | refine r_q hG Y Y Y ?_))
    | (show AL _ _ _ _ _ _ _ _; first | refine Bk Y Y Y ?_ | (refine As ?_; first | show AW _ _ _ _ _ _ | show ∃ x', _ < _ ∧ _)) | (show AW _ _ (.seq _ _) _ _ _; refine Ag ?_; intro Q1) | (show AW _ _ (.region _ _ false) _ _ _; refine Ac ?_; intro O1) | (show AW _ _ (.cond _ _ _) _ _ _; first | refine Ao Y ?_ | refine Ap Y ?_) | (show AW _ _ (.skip) _ _ _; refine Aj ?_; first | show AW _ _ _ _ _ _ | show ∃ x', _ < _ ∧ _) | (show AW _ _ (.block _ _) _ _ _; refine Al ?_; intro Q1) | (show AW _ _ (.exit _) _ _ _; refine Av ?_; first | show AW _ _ _ _ _ _ | show ∃ x', _ < _ ∧ _) | (show AW _ _ (.ret) _ _ _; refine Au ?_; try dsimp only [Az, Ab, A4, Af]) | fail)
    exact B0 (Bi rfl (Bi rfl (Bi rfl Bj))) (Wk.tupL (wk3 (.nil 1) (.refl _) (.refl _))) rfl
  rw [if_neg h1] at hT1
  have hv := beV1 b (by omega)
  have hc := num_Take_is (A0 b) hT1
  generalize hn : beV (b.take 1) = n at *
  by_cases h2 : b.length < 1 + 2 * n
  · have hr : takeC b = ([], 0, 3) := by rw [takeC, if_neg h1, hn, if_pos h2]
    rw [hr]
    repeat' (first
    | ((show AL _ _ _ _ _ _ _ _; refine Ae Y ?_); (first
      | (show AOp _ _ ⟨_, .move _, _, _, _, _⟩ _ _ _; refine Ar hG Y Y ?_)
      | (show AOp _ _ ⟨_, .assign _, _, _, _, _⟩ _ _ _; refine A2 hG Y Y ?_)
      | (show AOp _ _ ⟨_, .call ⟨.builtin .len, _, _⟩, _, _, _, _⟩ _ _ _; first | refine Bz hG Y Y Y Y ?_ | refine r_len hG Y Y Y Y Y ?_)
      | (show AOp _ _ ⟨_, .binOp .add _ _ _ _, _, _, _, _⟩ _ _ _; first | refine Aa hG Y Y Y Y Y (by omega) ?_)
      | (show AOp _ _ ⟨_, .binOp .mul _ _ _ _, _, _, _, _⟩ _ _ _; first | refine Aa hG Y Y Y Y Y (by omega) ?_)
      | (show AOp _ _ ⟨_, .binOp _ _ _ _ _, _, _, _, _⟩ _ _ _; first | refine Ax hG Y Y Y Y Y (by omega) ?_ | refine Ay hG Y Y Y Y Y (by omega) ?_ | (refine Ak hG Y Y Y Y Y (fun h => ?_) (fun h => ?_)))
      | (show AOp _ _ ⟨_, .convert _ _ _, _, _, _, _⟩ _ _ _; first | refine r_cv_i64 hG Y Y Y Y Y (by omega) ?_ | refine r_cv_u16 hG Y Y Y Y Y (by omega) ?_ | refine r_cvw hG Y Y Y Y Y ?_)
      | (show AOp _ _ ⟨_, .slice _ _ _ _ _, _, _, _, _⟩ _ _ _; first | refine r_sl_lon hG Y Y Y Y Y Y Y (by omega) ?_ | refine r_sl_lo hG Y Y Y Y Y Y Y (by omega) ?_ | refine r_sl hG Y Y ?_)
      | (show AOp _ _ ⟨_, .unOp _ _ _, _, _, _, _⟩ _ _ _; refine Bm hG Y Y Y ?_)
      | (show AOp _ _ ⟨_, .buildSlice _ _ _, _, _, _, _⟩ _ _ _; first | refine r_mk (sz := 1) hG Y Y Y Y Y Y Y ?_)
      | (show AOp _ _ ⟨_, .call ⟨.builtin .append, _, _⟩, _, _, _, _⟩ _ _ _; first | refine B7 (sz := 1) (xs := []) hG Y Y Y Y Y Y Y ⟨_, Y⟩ Y Y Y Y Y Y Y (by first | omega | (simp; omega)) (fun k => ?_) | refine Ca 0 hG Y Y Y Y Y Y Y ⟨_, Y⟩ Y Y Y Y Y (by first | omega | (simp only [List.length_append, List.length_cons, List.length_nil]; omega)) (fun k => ?_) | fail)
      | (show AOp _ _ ⟨_, .call ⟨.value _, _, _⟩, _, _, _, _⟩ _ _ _; first | refine Bp Y Y Y Y Y (by apply hc <;> (first | assumption | omega | exact Am _ _ | exact A0 _ | exact A1 _ _ | exact Bc _ | rfl | (simp; omega))) ?_ | fail)
      | refine r_q hG Y Y Y ?_))
    | (show AL _ _ _ _ _ _ _ _; first | refine Bk Y Y Y ?_ | (refine As ?_; first | show AW _ _ _ _ _ _ | show ∃ x', _ < _ ∧ _)) | (show AW _ _ (.seq _ _) _ _ _; refine Ag ?_; intro Q1) | (show AW _ _ (.region _ _ false) _ _ _; refine Ac ?_; intro O1) | (show AW _ _ (.cond _ _ _) _ _ _; first | refine Ao Y ?_ | refine Ap Y ?_) | (show AW _ _ (.skip) _ _ _; refine Aj ?_; first | show AW _ _ _ _ _ _ | show ∃ x', _ < _ ∧ _) | (show AW _ _ (.block _ _) _ _ _; refine Al ?_; intro Q1) | (show AW _ _ (.exit _) _ _ _; refine Av ?_; first | show AW _ _ _ _ _ _ | show ∃ x', _ < _ ∧ _) | (show AW _ _ (.ret) _ _ _; refine Au ?_; try dsimp only [Az, Ab, A4, Af]) | fail)
    exact B0 (Bi rfl (Bi rfl (Bi rfl Bj))) (Wk.tupL (wk3 (.nil 1) (.refl _) (.refl _))) rfl
  generalize hg : (fun i => UInt16.ofNat (beV ((b.drop (1 + 2 * i)).take 2))) = g
  have hr : takeC b = if mayC ((List.range n).map g) then ((List.range n).map g, 1 + 2 * n, 0) else ([], 0, 2) := by rw [takeC, if_neg h1, hn, if_neg h2, hg]
  rw [hr]
  repeat' (first
    | ((show AL _ _ _ _ _ _ _ _; refine Ae Y ?_); (first
      | (show AOp _ _ ⟨_, .move _, _, _, _, _⟩ _ _ _; refine Ar hG Y Y ?_)
      | (show AOp _ _ ⟨_, .assign _, _, _, _, _⟩ _ _ _; refine A2 hG Y Y ?_)
      | (show AOp _ _ ⟨_, .call ⟨.builtin .len, _, _⟩, _, _, _, _⟩ _ _ _; first | refine Bz hG Y Y Y Y ?_ | refine r_len hG Y Y Y Y Y ?_)
      | (show AOp _ _ ⟨_, .binOp .add _ _ _ _, _, _, _, _⟩ _ _ _; first | refine Aa hG Y Y Y Y Y (by omega) ?_)
      | (show AOp _ _ ⟨_, .binOp .mul _ _ _ _, _, _, _, _⟩ _ _ _; first | refine Aa hG Y Y Y Y Y (by omega) ?_)
      | (show AOp _ _ ⟨_, .binOp _ _ _ _ _, _, _, _, _⟩ _ _ _; first | refine Ax hG Y Y Y Y Y (by omega) ?_ | refine Ay hG Y Y Y Y Y (by omega) ?_ | (refine Ak hG Y Y Y Y Y (fun h => ?_) (fun h => ?_)))
      | (show AOp _ _ ⟨_, .convert _ _ _, _, _, _, _⟩ _ _ _; first | refine r_cv_i64 hG Y Y Y Y Y (by omega) ?_ | refine r_cv_u16 hG Y Y Y Y Y (by omega) ?_ | refine r_cvw hG Y Y Y Y Y ?_)
      | (show AOp _ _ ⟨_, .slice _ _ _ _ _, _, _, _, _⟩ _ _ _; first | refine r_sl_lon hG Y Y Y Y Y Y Y (by omega) ?_ | refine r_sl_lo hG Y Y Y Y Y Y Y (by omega) ?_ | refine r_sl hG Y Y ?_)
      | (show AOp _ _ ⟨_, .unOp _ _ _, _, _, _, _⟩ _ _ _; refine Bm hG Y Y Y ?_)
      | (show AOp _ _ ⟨_, .buildSlice _ _ _, _, _, _, _⟩ _ _ _; first | refine r_mk (sz := 1) hG Y Y Y Y Y Y Y ?_)
      | (show AOp _ _ ⟨_, .call ⟨.builtin .append, _, _⟩, _, _, _, _⟩ _ _ _; first | refine B7 (sz := 1) (xs := []) hG Y Y Y Y Y Y Y ⟨_, Y⟩ Y Y Y Y Y Y Y (by first | omega | (simp; omega)) (fun k => ?_) | refine Ca 0 hG Y Y Y Y Y Y Y ⟨_, Y⟩ Y Y Y Y Y (by first | omega | (simp only [List.length_append, List.length_cons, List.length_nil]; omega)) (fun k => ?_) | fail)
      | (show AOp _ _ ⟨_, .call ⟨.value _, _, _⟩, _, _, _, _⟩ _ _ _; first | refine Bp Y Y Y Y Y (by apply hc <;> (first | assumption | omega | exact Am _ _ | exact A0 _ | exact A1 _ _ | exact Bc _ | rfl | (simp; omega))) ?_ | fail)
      | refine r_q hG Y Y Y ?_))
    | (show AL _ _ _ _ _ _ _ _; first | refine Bk Y Y Y ?_ | (refine As ?_; first | show AW _ _ _ _ _ _ | show ∃ x', _ < _ ∧ _)) | (show AW _ _ (.seq _ _) _ _ _; refine Ag ?_; intro Q1) | (show AW _ _ (.region _ _ false) _ _ _; refine Ac ?_; intro O1) | (show AW _ _ (.cond _ _ _) _ _ _; first | refine Ao Y ?_ | refine Ap Y ?_) | (show AW _ _ (.skip) _ _ _; refine Aj ?_; first | show AW _ _ _ _ _ _ | show ∃ x', _ < _ ∧ _) | (show AW _ _ (.block _ _) _ _ _; refine Al ?_; intro Q1) | (show AW _ _ (.exit _) _ _ _; refine Av ?_; first | show AW _ _ _ _ _ _ | show ∃ x', _ < _ ∧ _) | (show AW _ _ (.ret) _ _ _; refine Au ?_; try dsimp only [Az, Ab, A4, Af]) | fail)
  refine aw_tok0 2 1 rfl rfl rfl rfl (fun k => ?_)
  refine aw_loop (X := TCX n) (fun x => [(0, sT b), (3, .int .i64 (1 + 2 * (n : Int))), (26, .int .i64 n), (27, .int .i64 x.i), (2, .sl 1 (.tok x.k) (((List.range x.i).map g).map hT))]) (fun x => ⟨[], [x.k], off, none⟩) (fun x => n - x.i) ⟨0, k, Nat.zero_le _⟩ ?_ (.refl _) ?_
  · exact .cons rfl (.cons rfl (.cons rfl (.consW rfl (.int rfl) (.consW rfl (.eq (by simp)) (.nil _)))))
  rintro ⟨i, k, hi⟩
  dsimp only
  have hrl : (List.range i).length = i := List.length_range
  by_cases hib : i < n
  · have e : ((1 : Int) + 2 * (i : Int)).toNat = 1 + 2 * i := by omega
    have hd : (b.drop ((1 : Int) + 2 * (i : Int)).toNat).length = b.length - (1 + 2 * i) := by rw [List.length_drop, e]
    have hc2 := takeE2 (b.drop ((1 : Int) + 2 * (i : Int)).toNat)
    rw [if_neg (by omega)] at hc2
    have hc3 := num_Take_is (A0 _) hc2
    have hw := beV2 (b.drop ((1 : Int) + 2 * (i : Int)).toNat) (by omega)
    have hgi : UInt16.ofNat (beV ((b.drop ((1 : Int) + 2 * (i : Int)).toNat).take 2)) = g i := by rw [← hg, e]
    generalize beV ((b.drop ((1 : Int) + 2 * (i : Int)).toNat).take 2) = v at *
    have ht := hT_of v hw
    rw [hgi] at ht
    repeat' (first
    | ((show AL _ _ _ _ _ _ _ _; refine Ae Y ?_); (first
      | (show AOp _ _ ⟨_, .move _, _, _, _, _⟩ _ _ _; refine Ar hG Y Y ?_)
      | (show AOp _ _ ⟨_, .assign _, _, _, _, _⟩ _ _ _; refine A2 hG Y Y ?_)
      | (show AOp _ _ ⟨_, .call ⟨.builtin .len, _, _⟩, _, _, _, _⟩ _ _ _; first | refine Bz hG Y Y Y Y ?_ | refine r_len hG Y Y Y Y Y ?_)
      | (show AOp _ _ ⟨_, .binOp .add _ _ _ _, _, _, _, _⟩ _ _ _; first | refine Aa hG Y Y Y Y Y (by omega) ?_)
      | (show AOp _ _ ⟨_, .binOp .mul _ _ _ _, _, _, _, _⟩ _ _ _; first | refine Aa hG Y Y Y Y Y (by omega) ?_)
      | (show AOp _ _ ⟨_, .binOp _ _ _ _ _, _, _, _, _⟩ _ _ _; first | refine Ax hG Y Y Y Y Y (by omega) ?_ | refine Ay hG Y Y Y Y Y (by omega) ?_ | (refine Ak hG Y Y Y Y Y (fun h => ?_) (fun h => ?_)))
      | (show AOp _ _ ⟨_, .convert _ _ _, _, _, _, _⟩ _ _ _; first | refine r_cv_i64 hG Y Y Y Y Y (by omega) ?_ | refine r_cv_u16 hG Y Y Y Y Y (by omega) ?_ | refine r_cvw hG Y Y Y Y Y ?_)
      | (show AOp _ _ ⟨_, .slice _ _ _ _ _, _, _, _, _⟩ _ _ _; first | refine r_sl_lon hG Y Y Y Y Y Y Y (by omega) ?_ | refine r_sl_lo hG Y Y Y Y Y Y Y (by omega) ?_ | refine r_sl hG Y Y ?_)
      | (show AOp _ _ ⟨_, .unOp _ _ _, _, _, _, _⟩ _ _ _; refine Bm hG Y Y Y ?_)
      | (show AOp _ _ ⟨_, .buildSlice _ _ _, _, _, _, _⟩ _ _ _; first | refine r_mk (sz := 1) hG Y Y Y Y Y Y Y ?_)
      | (show AOp _ _ ⟨_, .call ⟨.builtin .append, _, _⟩, _, _, _, _⟩ _ _ _; first | refine B7 (sz := 1) (xs := []) hG Y Y Y Y Y Y Y ⟨_, Y⟩ Y Y Y Y Y Y Y (by first | omega | (simp; omega)) (fun k => ?_) | refine Ca 0 hG Y Y Y Y Y Y Y ⟨_, Y⟩ Y Y Y Y Y (by first | omega | (simp only [List.length_append, List.length_cons, List.length_nil]; omega)) (fun k => ?_) | fail)
      | (show AOp _ _ ⟨_, .call ⟨.value _, _, _⟩, _, _, _, _⟩ _ _ _; first | refine Bp Y Y Y Y Y (by apply hc3 <;> (first | assumption | omega | exact Am _ _ | exact A0 _ | exact A1 _ _ | exact Bc _ | rfl | (simp; omega))) ?_ | fail)
      | refine r_q hG Y Y Y ?_))
    | (show AL _ _ _ _ _ _ _ _; first | refine Bk Y Y Y ?_ | (refine As ?_; first | show AW _ _ _ _ _ _ | show ∃ x', _ < _ ∧ _)) | (show AW _ _ (.seq _ _) _ _ _; refine Ag ?_; intro Q1) | (show AW _ _ (.region _ _ false) _ _ _; refine Ac ?_; intro O1) | (show AW _ _ (.cond _ _ _) _ _ _; first | refine Ao Y ?_ | refine Ap Y ?_) | (show AW _ _ (.skip) _ _ _; refine Aj ?_; first | show AW _ _ _ _ _ _ | show ∃ x', _ < _ ∧ _) | (show AW _ _ (.block _ _) _ _ _; refine Al ?_; intro Q1) | (show AW _ _ (.exit _) _ _ _; refine Av ?_; first | show AW _ _ _ _ _ _ | show ∃ x', _ < _ ∧ _) | (show AW _ _ (.ret) _ _ _; refine Au ?_; try dsimp only [Az, Ab, A4, Af]) | fail)
    refine Ae rfl (Ca 0 (ys := [g i]) hG rfl rfl rfl rfl rfl rfl rfl ⟨_, rfl⟩ rfl rfl rfl rfl (congrArg (fun t => [t]) ht) (by simp; omega) (fun k' => ?_))
    repeat' (first
    | ((show AL _ _ _ _ _ _ _ _; refine Ae Y ?_); (first
      | (show AOp _ _ ⟨_, .move _, _, _, _, _⟩ _ _ _; refine Ar hG Y Y ?_)
      | (show AOp _ _ ⟨_, .assign _, _, _, _, _⟩ _ _ _; refine A2 hG Y Y ?_)
      | (show AOp _ _ ⟨_, .call ⟨.builtin .len, _, _⟩, _, _, _, _⟩ _ _ _; first | refine Bz hG Y Y Y Y ?_ | refine r_len hG Y Y Y Y Y ?_)
      | (show AOp _ _ ⟨_, .binOp .add _ _ _ _, _, _, _, _⟩ _ _ _; first | refine Aa hG Y Y Y Y Y (by omega) ?_)
      | (show AOp _ _ ⟨_, .binOp .mul _ _ _ _, _, _, _, _⟩ _ _ _; first | refine Aa hG Y Y Y Y Y (by omega) ?_)
      | (show AOp _ _ ⟨_, .binOp _ _ _ _ _, _, _, _, _⟩ _ _ _; first | refine Ax hG Y Y Y Y Y (by omega) ?_ | refine Ay hG Y Y Y Y Y (by omega) ?_ | (refine Ak hG Y Y Y Y Y (fun h => ?_) (fun h => ?_)))
      | (show AOp _ _ ⟨_, .convert _ _ _, _, _, _, _⟩ _ _ _; first | refine r_cv_i64 hG Y Y Y Y Y (by omega) ?_ | refine r_cv_u16 hG Y Y Y Y Y (by omega) ?_ | refine r_cvw hG Y Y Y Y Y ?_)
      | (show AOp _ _ ⟨_, .slice _ _ _ _ _, _, _, _, _⟩ _ _ _; first | refine r_sl_lon hG Y Y Y Y Y Y Y (by omega) ?_ | refine r_sl_lo hG Y Y Y Y Y Y Y (by omega) ?_ | refine r_sl hG Y Y ?_)
      | (show AOp _ _ ⟨_, .unOp _ _ _, _, _, _, _⟩ _ _ _; refine Bm hG Y Y Y ?_)
      | (show AOp _ _ ⟨_, .buildSlice _ _ _, _, _, _, _⟩ _ _ _; first | refine r_mk (sz := 1) hG Y Y Y Y Y Y Y ?_)
      | (show AOp _ _ ⟨_, .call ⟨.builtin .append, _, _⟩, _, _, _, _⟩ _ _ _; first | refine B7 (sz := 1) (xs := []) hG Y Y Y Y Y Y Y ⟨_, Y⟩ Y Y Y Y Y Y Y (by first | omega | (simp; omega)) (fun k => ?_) | refine Ca 0 hG Y Y Y Y Y Y Y ⟨_, Y⟩ Y Y Y Y Y (by first | omega | (simp only [List.length_append, List.length_cons, List.length_nil]; omega)) (fun k => ?_) | fail)
      | refine r_q hG Y Y Y ?_))
    | (show AL _ _ _ _ _ _ _ _; first | refine Bk Y Y Y ?_ | (refine As ?_; first | show AW _ _ _ _ _ _ | show ∃ x', _ < _ ∧ _)) | (show AW _ _ (.seq _ _) _ _ _; refine Ag ?_; intro Q1) | (show AW _ _ (.region _ _ false) _ _ _; refine Ac ?_; intro O1) | (show AW _ _ (.cond _ _ _) _ _ _; first | refine Ao Y ?_ | refine Ap Y ?_) | (show AW _ _ (.skip) _ _ _; refine Aj ?_; first | show AW _ _ _ _ _ _ | show ∃ x', _ < _ ∧ _) | (show AW _ _ (.block _ _) _ _ _; refine Al ?_; intro Q1) | (show AW _ _ (.exit _) _ _ _; refine Av ?_; first | show AW _ _ _ _ _ _ | show ∃ x', _ < _ ∧ _) | (show AW _ _ (.ret) _ _ _; refine Au ?_; try dsimp only [Az, Ab, A4, Af]) | fail)
    refine ⟨⟨i + 1, k', by omega⟩, by dsimp only; omega, ?_, .refl _⟩
    exact .cons rfl (.cons rfl (.cons rfl (.consW rfl (.int (by simp)) (.consW rfl (.eq (by rw [List.range_succ]; simp)) (.nil _)))))
  · obtain rfl : i = n := by omega
    have hm := cats_May (x := .sl 1 (.tok k) (((List.range i).map g).map hT)) (A1 _ _) (by simp; omega)
    cases hma : mayC ((List.range i).map g) <;> rw [hma] at hm
    · repeat' (first
    | ((show AL _ _ _ _ _ _ _ _; refine Ae Y ?_); (first
      | (show AOp _ _ ⟨_, .move _, _, _, _, _⟩ _ _ _; refine Ar hG Y Y ?_)
      | (show AOp _ _ ⟨_, .assign _, _, _, _, _⟩ _ _ _; refine A2 hG Y Y ?_)
      | (show AOp _ _ ⟨_, .call ⟨.builtin .len, _, _⟩, _, _, _, _⟩ _ _ _; first | refine Bz hG Y Y Y Y ?_ | refine r_len hG Y Y Y Y Y ?_)
      | (show AOp _ _ ⟨_, .binOp .add _ _ _ _, _, _, _, _⟩ _ _ _; first | refine Aa hG Y Y Y Y Y (by omega) ?_)
      | (show AOp _ _ ⟨_, .binOp .mul _ _ _ _, _, _, _, _⟩ _ _ _; first | refine Aa hG Y Y Y Y Y (by omega) ?_)
      | (show AOp _ _ ⟨_, .binOp _ _ _ _ _, _, _, _, _⟩ _ _ _; first | refine Ax hG Y Y Y Y Y (by omega) ?_ | refine Ay hG Y Y Y Y Y (by omega) ?_ | (refine Ak hG Y Y Y Y Y (fun h => ?_) (fun h => ?_)))
      | (show AOp _ _ ⟨_, .convert _ _ _, _, _, _, _⟩ _ _ _; first | refine r_cv_i64 hG Y Y Y Y Y (by omega) ?_ | refine r_cv_u16 hG Y Y Y Y Y (by omega) ?_ | refine r_cvw hG Y Y Y Y Y ?_)
      | (show AOp _ _ ⟨_, .slice _ _ _ _ _, _, _, _, _⟩ _ _ _; first | refine r_sl_lon hG Y Y Y Y Y Y Y (by omega) ?_ | refine r_sl_lo hG Y Y Y Y Y Y Y (by omega) ?_ | refine r_sl hG Y Y ?_)
      | (show AOp _ _ ⟨_, .unOp _ _ _, _, _, _, _⟩ _ _ _; refine Bm hG Y Y Y ?_)
      | (show AOp _ _ ⟨_, .buildSlice _ _ _, _, _, _, _⟩ _ _ _; first | refine r_mk (sz := 1) hG Y Y Y Y Y Y Y ?_)
      | (show AOp _ _ ⟨_, .call ⟨.builtin .append, _, _⟩, _, _, _, _⟩ _ _ _; first | refine B7 (sz := 1) (xs := []) hG Y Y Y Y Y Y Y ⟨_, Y⟩ Y Y Y Y Y Y Y (by first | omega | (simp; omega)) (fun k => ?_) | refine Ca 0 hG Y Y Y Y Y Y Y ⟨_, Y⟩ Y Y Y Y Y (by first | omega | (simp only [List.length_append, List.length_cons, List.length_nil]; omega)) (fun k => ?_) | fail)
      | (show AOp _ _ ⟨_, .call ⟨.value _, _, _⟩, _, _, _, _⟩ _ _ _; first | refine Bp Y Y Y Y Y (by apply hm <;> (first | assumption | omega | exact Am _ _ | exact A0 _ | exact A1 _ _ | exact Bc _ | rfl | (simp; omega))) ?_ | fail)
      | refine r_q hG Y Y Y ?_))
    | (show AL _ _ _ _ _ _ _ _; first | refine Bk Y Y Y ?_ | (refine As ?_; first | show AW _ _ _ _ _ _ | show ∃ x', _ < _ ∧ _)) | (show AW _ _ (.seq _ _) _ _ _; refine Ag ?_; intro Q1) | (show AW _ _ (.region _ _ false) _ _ _; refine Ac ?_; intro O1) | (show AW _ _ (.cond _ _ _) _ _ _; first | refine Ao Y ?_ | refine Ap Y ?_) | (show AW _ _ (.skip) _ _ _; refine Aj ?_; first | show AW _ _ _ _ _ _ | show ∃ x', _ < _ ∧ _) | (show AW _ _ (.block _ _) _ _ _; refine Al ?_; intro Q1) | (show AW _ _ (.exit _) _ _ _; refine Av ?_; first | show AW _ _ _ _ _ _ | show ∃ x', _ < _ ∧ _) | (show AW _ _ (.ret) _ _ _; refine Au ?_; try dsimp only [Az, Ab, A4, Af]) | fail)
      refine B0 (Bi rfl (Bi rfl (Bi rfl Bj))) ?_ rfl
      rw [hma]
      exact Wk.tupL (wk3 (.nil 1) (.refl _) (.refl _))
    · repeat' (first
    | ((show AL _ _ _ _ _ _ _ _; refine Ae Y ?_); (first
      | (show AOp _ _ ⟨_, .move _, _, _, _, _⟩ _ _ _; refine Ar hG Y Y ?_)
      | (show AOp _ _ ⟨_, .assign _, _, _, _, _⟩ _ _ _; refine A2 hG Y Y ?_)
      | (show AOp _ _ ⟨_, .call ⟨.builtin .len, _, _⟩, _, _, _, _⟩ _ _ _; first | refine Bz hG Y Y Y Y ?_ | refine r_len hG Y Y Y Y Y ?_)
      | (show AOp _ _ ⟨_, .binOp .add _ _ _ _, _, _, _, _⟩ _ _ _; first | refine Aa hG Y Y Y Y Y (by omega) ?_)
      | (show AOp _ _ ⟨_, .binOp .mul _ _ _ _, _, _, _, _⟩ _ _ _; first | refine Aa hG Y Y Y Y Y (by omega) ?_)
      | (show AOp _ _ ⟨_, .binOp _ _ _ _ _, _, _, _, _⟩ _ _ _; first | refine Ax hG Y Y Y Y Y (by omega) ?_ | refine Ay hG Y Y Y Y Y (by omega) ?_ | (refine Ak hG Y Y Y Y Y (fun h => ?_) (fun h => ?_)))
      | (show AOp _ _ ⟨_, .convert _ _ _, _, _, _, _⟩ _ _ _; first | refine r_cv_i64 hG Y Y Y Y Y (by omega) ?_ | refine r_cv_u16 hG Y Y Y Y Y (by omega) ?_ | refine r_cvw hG Y Y Y Y Y ?_)
      | (show AOp _ _ ⟨_, .slice _ _ _ _ _, _, _, _, _⟩ _ _ _; first | refine r_sl_lon hG Y Y Y Y Y Y Y (by omega) ?_ | refine r_sl_lo hG Y Y Y Y Y Y Y (by omega) ?_ | refine r_sl hG Y Y ?_)
      | (show AOp _ _ ⟨_, .unOp _ _ _, _, _, _, _⟩ _ _ _; refine Bm hG Y Y Y ?_)
      | (show AOp _ _ ⟨_, .buildSlice _ _ _, _, _, _, _⟩ _ _ _; first | refine r_mk (sz := 1) hG Y Y Y Y Y Y Y ?_)
      | (show AOp _ _ ⟨_, .call ⟨.builtin .append, _, _⟩, _, _, _, _⟩ _ _ _; first | refine B7 (sz := 1) (xs := []) hG Y Y Y Y Y Y Y ⟨_, Y⟩ Y Y Y Y Y Y Y (by first | omega | (simp; omega)) (fun k => ?_) | refine Ca 0 hG Y Y Y Y Y Y Y ⟨_, Y⟩ Y Y Y Y Y (by first | omega | (simp only [List.length_append, List.length_cons, List.length_nil]; omega)) (fun k => ?_) | fail)
      | (show AOp _ _ ⟨_, .call ⟨.value _, _, _⟩, _, _, _, _⟩ _ _ _; first | refine Bp Y Y Y Y Y (by apply hm <;> (first | assumption | omega | exact Am _ _ | exact A0 _ | exact A1 _ _ | exact Bc _ | rfl | (simp; omega))) ?_ | fail)
      | refine r_q hG Y Y Y ?_))
    | (show AL _ _ _ _ _ _ _ _; first | refine Bk Y Y Y ?_ | (refine As ?_; first | show AW _ _ _ _ _ _ | show ∃ x', _ < _ ∧ _)) | (show AW _ _ (.seq _ _) _ _ _; refine Ag ?_; intro Q1) | (show AW _ _ (.region _ _ false) _ _ _; refine Ac ?_; intro O1) | (show AW _ _ (.cond _ _ _) _ _ _; first | refine Ao Y ?_ | refine Ap Y ?_) | (show AW _ _ (.skip) _ _ _; refine Aj ?_; first | show AW _ _ _ _ _ _ | show ∃ x', _ < _ ∧ _) | (show AW _ _ (.block _ _) _ _ _; refine Al ?_; intro Q1) | (show AW _ _ (.exit _) _ _ _; refine Av ?_; first | show AW _ _ _ _ _ _ | show ∃ x', _ < _ ∧ _) | (show AW _ _ (.ret) _ _ _; refine Au ?_; try dsimp only [Az, Ab, A4, Af]) | fail)
      refine B0 (Bi rfl (Bi rfl (Bi rfl Bj))) ?_ rfl
      rw [hma]
      exact Wk.tupL (wk3 (Wk.own _ _ _) (.int (by simp)) (.refl _))
end Go.Proofs.Ytnmpgipfbbilbaa
set_option linter.unusedVariables false
set_option linter.unusedSimpArgs false
namespace Go.Ts
section
variable {P : Program} {G : Nat → Option TI} {w w1 : World} {μ : Gh} {σ σ1 : St} {N : Nat} {a : Env} {Q : Exit → Env → St → Prop}
theorem ret_live {rs : List ResultVar} {ts : List T} {r : T} {R : T → St → Prop} (h : ResRs G a σ rs ts) (hw : Wk (tup1 ts) r) (hR : R r σ) : retA G rs R .ret a σ :=
  ⟨ts, h, (conv_drop (L' := σ.L) (R' := σ.R) (List.Sublist.refl _) (List.Sublist.refl _) hw).cr hR⟩
theorem flat_row (l : List UInt16) : flat (l.map hT) = rowT hT l.toArray := by
  unfold rowT
  simp only [flat, List.flatMap_map, Ai]
  induction l with
  | nil => rfl
  | cons x l ih => simpa [List.flatMap_cons] using ih
theorem aop_app0F (hG : Fits P G) {o : Oper} {x y : Operand} {t1 t2 : TypeId} {e : Nat} {i1 i2 ie : TI} {ys : List T} {ty : T} {K : Env → St → Prop}
    (ho : o.op = .call { callee := .builtin .append, args := #[x, y], argTypes := #[t1, t2] }) (h1 : G t1 = some i1) (h1d : i1.d = .slice e) (he : G e = some ie) (h2 : G t2 = some i2) (h2d : ∃ e2, i2.d = .slice e2)
    (hx : A3 a x = some (.sl ie.size .full [])) (hy : A3 a y = some ty) {objs : Nat → Option Ob} (hob : ∀ i o, objs i = some o → (i, o) ∈ σ.L) (hsrc : srcOf objs ie.size ty = some ys)
    (hsz : (Nat.blt 0 ie.size && Nat.ble ie.bytes 4096) = true) (hys : ys ≠ []) (hlen : ys.length ≤ 4294967296) (hd : Bh N o.dst = true)
    (k : ∀ i', (∀ n, σ.nx = some n → i' = n) → K (put a o.dst (.aref ie.size i' 0 ys.length none)) (σ.new i' (.cells (flat ys)))) : AOp P N o a σ K := by
  intro av w μ hi hr next Qc hn
  simp only [Bool.and_eq_true] at hsz
  have hsz0 : 0 < ie.size := by have := hsz.1; simpa [Nat.blt_eq] using this
  have hby := Nat.le_of_ble_eq_true hsz.2
  have hypos : 0 < ys.length := List.length_pos_iff.2 hys
  obtain ⟨e2, h2d⟩ := h2d
  have us := g_size (P := P) (w := w) hG he
  have rx := Bl hr hx
  have ry := Bl hr hy
  obtain ⟨s1, s2, vs, s3, s4, s5⟩ := srcOf_run (P := P) hi hob ry hsrc
  have hexec : (execOp av.eval o).run P w = ((Builtin.append_ #[t1, t2] o.type #[av.eval x, av.eval y]).run P w).andThen fun v w' => .ok (.value v) w' := by
    simp [execOp, ho, resolve, invoke, builtin]
  have hfl := flat_length s2
  obtain ⟨i', f1', f2', f3', f4'⟩ := hi.pick
  generalize hvx : av.eval x = vx at rx
  have hnil : ∃ base, vx = .slice base 0 0 := by
    generalize hq : T.sl ie.size Own.full [] = q at rx
    cases rx with
    | slnil => exact ⟨none, rfl⟩
    | slz ad => exact ⟨some ad, rfl⟩
    | sl b p cap sz own xs n hn0 hc ho hs h0 r0 =>
      injection hq with e1 e2 e3
      subst e1; subst e2; subst e3
      obtain rfl : n = 0 := by simpa using hn0.symm
      have ho' : p + 0 * ie.size = p + cap * ie.size := ho
      have hc0 : cap = 0 := by
        rcases Nat.eq_zero_or_pos cap with h | h
        · exact h
        · have := Nat.mul_pos h hsz0; omega
      exact ⟨_, by rw [hc0]⟩
    | _ => cases hq
  obtain ⟨base, hb⟩ := hnil
  clear rx
  obtain ⟨info, ui, hib, his⟩ := g_info (P := P) (w := w) hG he
  have ui' : ∀ w, (typeInfo e).run P w = .ok info w := by
    intro w2
    obtain ⟨i0, d0, k1, k2, _⟩ := hG e ie he
    have e1 : (typeInfo e).run P w = .ok i0 w := by simp [typeInfo, k1]
    rw [ui] at e1; injection e1 with e1; subst e1
    simp [typeInfo, k1]
  obtain ⟨z, uz, rz, hz1, hz2⟩ := g_zero (P := P) (w := w) (μ := μ) (σ := σ) hG he
  have uz' : ∀ w, (zeroValue e).run P w = .ok z w := by
    intro w2
    obtain ⟨i0, d0, k1, k2, k3, k4, k5, k6, _⟩ := hG e ie he
    have e1 : ∀ w, (zeroValue e).run P w = .ok (if ie.d.agg then .agg (ie.zero.map Z.value).toArray else (ie.zero.headD .b).value) w := by
      intro w; simp only [zeroValue, typeInfo, Sem.run_bind, run_program, Result.andThen_ok, k1, k6, Sem.run_pure]
    rw [e1] at uz; injection uz with uz; rw [e1, uz]
  have u1' : ∀ w, (underlying t1).run P w = .ok (.slice e) w := by
    intro w2; obtain ⟨d, u, f⟩ := Bt (P := P) (w := w2) hG h1; rw [h1d] at f; obtain rfl := B4 f; exact u
  have u2' : ∀ w, (underlying t2).run P w = .ok (.slice e2) w := by
    intro w2; obtain ⟨d, u, f⟩ := Bt (P := P) (w := w2) hG h2; rw [h2d] at f; obtain rfl := B4 f; exact u
  obtain ⟨newCap, hnc, hrun⟩ := append_grow_run (P := P) (ty := o.type) (ie := info) (base := base) (sLen := 0) (sCap := 0) (vy := av.eval y) (old := #[]) (vs := vs) (n := ys.length) u1' u2' (fun w => by rw [his]; exact g_size hG he) ui' uz' s1 (by omega) (by omega) (by omega) (.inr trivial)
    (by
      cases base with
      | none => rfl
      | some ad => simpa [Builtin.firstCells] using run_loadCells (P := P) w.drew ad 0 (fun _ => undef) (fun j hj => absurd hj (by omega))) (by rw [his]; exact s3 w.drew rfl)
  simp only [Nat.zero_add, Array.empty_append] at hrun hnc
  have ev1 : Ev w μ σ w.drew μ σ := ev_same rfl rfl rfl rfl
  have hi1 : Inv w.drew μ σ := hi.ev_heap rfl ev1
  generalize hrest : Builtin.zeroCells z.cells (newCap - ys.length) = rest at hrun
  have hrs : rest.size = (newCap - ys.length) * ie.size := by rw [← hrest, zeroCells_size, hz1]
  have hcs : (vs ++ rest).size = newCap * ie.size := by
    rw [Array.size_append, s4, hfl, hrs, ← Nat.add_mul]
    congr 1; omega
  obtain ⟨ev3, i3⟩ := new_step hi1 (vs ++ rest) e f1' f2' f3' f4' (ts := flat ys) (by rw [hcs, hfl]; exact Nat.mul_le_mul_right _ hnc) (fun j t u hj hu => by
    rw [Nat.zero_add] at hu
    refine Rel.ev (w := w) ?_ ev1
    have h4 : j < (flat ys).length := B8 hj
    rw [Array.getElem?_append_left (by omega)] at hu
    exact s5 _ t u hj hu)
  have ev := ev1.trans ev3
  unfold Oper.wp
  rw [hexec, hvx, hb, hrun]
  refine hn _ _ _ _ _ ev i3 ((hr.ev ev).put hd (Rel.aref i' w.heap.size 0 0 ys.length newCap ie.size none (By _ _) hnc (fun x hx => by cases hx) ⟨_, e, _, Cf w.drew _, by rw [hcs]; simp⟩)) (k i' f3')


end
end Go.Ts
namespace Go.Proofs.Ytnmpgipfbbilbaa
open Go.Ts
attribute [local irreducible] Go.Ts.AW Go.Ts.AOps Go.Ts.AL Go.Ts.AOp Go.Ts.ACalls Go.Ts.DL Go.Ts.DQ0 Go.Ts.EL
theorem clone_live {l : List UInt16} (hne : l ≠ []) (hl : l.length ≤ 4294967296) (off : Nat → Nat → Prop) : ACalls Try.prog 28 [.sl 1 .no (l.map hT)] ⟨[], [], off, none⟩
    (fun u σ' => ∃ i, u = .aref 1 i 0 l.length none ∧ σ' = ⟨[(i, .cells (rowT hT l.toArray))], [], off, none⟩) := by
  refine Bs (N := 8) (rs := [.tmp 2]) hG Try.func28 rfl rfl rfl rfl rfl ?_
  repeat' (first
    | ((show AL _ _ _ _ _ _ _ _; refine Ae Y ?_); (first
      | (show AOp _ _ ⟨_, .move _, _, _, _, _⟩ _ _ _; refine Ar hG Y Y ?_)
      | (show AOp _ _ ⟨_, .assign _, _, _, _, _⟩ _ _ _; refine A2 hG Y Y ?_)
      | (show AOp _ _ ⟨_, .binOp _ _ _ _ _, _, _, _, _⟩ _ _ _; first | refine Bx hG Y Y Y ?_)
      | (show AOp _ _ ⟨_, .buildSlice _ _ _, _, _, _, _⟩ _ _ _; first | refine r_mk (sz := 1) hG Y Y Y Y Y Y Y ?_)
      | (show AOp _ _ ⟨_, .call ⟨.builtin .append, _, _⟩, _, _, _, _⟩ _ _ _; first | refine B7 (sz := 1) (xs := []) hG Y Y Y Y Y Y Y ⟨_, Y⟩ Y Y Y Y Y Y Y (by first | omega | (simp; omega)) (fun k => ?_) | refine Ca 0 hG Y Y Y Y Y Y Y ⟨_, Y⟩ Y Y Y Y Y (by first | omega | (simp only [List.length_append, List.length_cons, List.length_nil]; omega)) (fun k => ?_) | fail)
      | refine r_q hG Y Y Y ?_))
    | (show AL _ _ _ _ _ _ _ _; first | refine Bk Y Y Y ?_ | (refine As ?_; first | show AW _ _ _ _ _ _ | show ∃ x', _ < _ ∧ _)) | (show AW _ _ (.seq _ _) _ _ _; refine Ag ?_; intro Q1) | (show AW _ _ (.region _ _ false) _ _ _; refine Ac ?_; intro O1) | (show AW _ _ (.cond _ _ _) _ _ _; first | refine Ao Y ?_ | refine Ap Y ?_) | (show AW _ _ (.skip) _ _ _; refine Aj ?_; first | show AW _ _ _ _ _ _ | show ∃ x', _ < _ ∧ _) | (show AW _ _ (.ret) _ _ _; refine Au ?_; try dsimp only [Az, Ab, A4, Af]) | fail)
  refine Ae rfl (op_eqnil hG rfl rfl rfl rfl rfl rfl rfl rfl (fun b hb => ?_))
  cases b with
  | true => exact absurd (List.map_eq_nil_iff.1 (hb rfl)) hne
  | false =>
    repeat' (first
    | ((show AL _ _ _ _ _ _ _ _; refine Ae Y ?_); (first
      | (show AOp _ _ ⟨_, .move _, _, _, _, _⟩ _ _ _; refine Ar hG Y Y ?_)
      | (show AOp _ _ ⟨_, .assign _, _, _, _, _⟩ _ _ _; refine A2 hG Y Y ?_)
      | (show AOp _ _ ⟨_, .binOp _ _ _ _ _, _, _, _, _⟩ _ _ _; first | refine Bx hG Y Y Y ?_)
      | (show AOp _ _ ⟨_, .buildSlice _ _ _, _, _, _, _⟩ _ _ _; first | refine r_mk (sz := 1) hG Y Y Y Y Y Y Y ?_)
      | (show AOp _ _ ⟨_, .call ⟨.builtin .append, _, _⟩, _, _, _, _⟩ _ _ _; fail)
      | refine r_q hG Y Y Y ?_))
    | (show AL _ _ _ _ _ _ _ _; first | refine Bk Y Y Y ?_ | (refine As ?_; first | show AW _ _ _ _ _ _ | show ∃ x', _ < _ ∧ _)) | (show AW _ _ (.seq _ _) _ _ _; refine Ag ?_; intro Q1) | (show AW _ _ (.region _ _ false) _ _ _; refine Ac ?_; intro O1) | (show AW _ _ (.cond _ _ _) _ _ _; first | refine Ao Y ?_ | refine Ap Y ?_) | (show AW _ _ (.skip) _ _ _; refine Aj ?_; first | show AW _ _ _ _ _ _ | show ∃ x', _ < _ ∧ _) | (show AW _ _ (.ret) _ _ _; refine Au ?_; try dsimp only [Az, Ab, A4, Af]) | fail)
    refine Ae rfl (aop_app0F (objs := fun _ => none) hG rfl rfl rfl rfl rfl ⟨_, rfl⟩ rfl rfl (fun i o h => by cases h) rfl rfl (by simpa using hne) (by simpa using hl) rfl (fun i hi => ?_))
    repeat' (first
    | ((show AL _ _ _ _ _ _ _ _; refine Ae Y ?_); (first
      | (show AOp _ _ ⟨_, .move _, _, _, _, _⟩ _ _ _; refine Ar hG Y Y ?_)
      | (show AOp _ _ ⟨_, .assign _, _, _, _, _⟩ _ _ _; refine A2 hG Y Y ?_)
      | (show AOp _ _ ⟨_, .binOp _ _ _ _ _, _, _, _, _⟩ _ _ _; first | refine Bx hG Y Y Y ?_)
      | (show AOp _ _ ⟨_, .buildSlice _ _ _, _, _, _, _⟩ _ _ _; first | refine r_mk (sz := 1) hG Y Y Y Y Y Y Y ?_)
      | (show AOp _ _ ⟨_, .call ⟨.builtin .append, _, _⟩, _, _, _, _⟩ _ _ _; first | refine B7 (sz := 1) (xs := []) hG Y Y Y Y Y Y Y ⟨_, Y⟩ Y Y Y Y Y Y Y (by first | omega | (simp; omega)) (fun k => ?_) | refine Ca 0 hG Y Y Y Y Y Y Y ⟨_, Y⟩ Y Y Y Y Y (by first | omega | (simp only [List.length_append, List.length_cons, List.length_nil]; omega)) (fun k => ?_) | fail)
      | refine r_q hG Y Y Y ?_))
    | (show AL _ _ _ _ _ _ _ _; first | refine Bk Y Y Y ?_ | (refine As ?_; first | show AW _ _ _ _ _ _ | show ∃ x', _ < _ ∧ _)) | (show AW _ _ (.seq _ _) _ _ _; refine Ag ?_; intro Q1) | (show AW _ _ (.region _ _ false) _ _ _; refine Ac ?_; intro O1) | (show AW _ _ (.cond _ _ _) _ _ _; first | refine Ao Y ?_ | refine Ap Y ?_) | (show AW _ _ (.skip) _ _ _; refine Aj ?_; first | show AW _ _ _ _ _ _ | show ∃ x', _ < _ ∧ _) | (show AW _ _ (.ret) _ _ _; refine Au ?_; try dsimp only [Az, Ab, A4, Af]) | fail)
    exact ret_live (Bi rfl Bj) (.refl _) ⟨i, by rw [List.length_map]; rfl, by rw [flat_row]; rfl⟩
end Go.Proofs.Ytnmpgipfbbilbaa
