/- Part of the proof of the law WalkForms: the texts WD, WE, WF, WH. No conditions. -/
import Derived.Test.YtmckbfdklcmogaaWalkFormsE
set_option linter.unusedSimpArgs false
set_option linter.unusedVariables false
namespace Go.Ts
theorem ret_pureE {G : Nat → Option TI} {σ : St} {a : Env} {rs : List ResultVar} {ts : List T} {r : T} (h : ResRs G a σ rs ts) (hw : Wk (tup1 ts) r) (hnx : σ.nx = none) : retA G rs (fun u σ' => u = r ∧ σ' = ⟨[], [], σ.off, none⟩) .normal a σ := Bz h hw hnx
end Go.Ts
namespace Go.Proofs.Ytmckbfdklcmogaa
open Go.Ts
set_option linter.unusedSimpArgs false
set_option linter.unusedVariables false
set_option linter.unnecessarySimpa false
attribute [local irreducible] Go.Ts.AW Go.Ts.AOps Go.Ts.AL Go.Ts.AOp Go.Ts.ACalls Go.Ts.DL Go.Ts.DQ0 Go.Ts.EL
def kstep (m : List (Nat × Int)) (o : OB) : List (Nat × Int) := if (nm 6 o.id).isSome = true ∧ klook m o.id ≠ 1 then kset m o.id o.kind else m
def kinds (l : List OB) : List (Nat × Int) := l.foldl kstep []
theorem kinds_succ {l : List OB} {i : Nat} (h : i < l.length) : kinds (l.take (i + 1)) = kstep (kinds (l.take i)) (l.getD i default) := by
  unfold kinds
  rw [List.take_add_one, List.foldl_append]
  simp [h, List.getD]
theorem kset_len (m : List (Nat × Int)) (k : Nat) (v : Int) : (kset m k v).length ≤ m.length + 1 := by
  unfold kset; split <;> simp
theorem kinds_len (l : List OB) : (kinds l).length ≤ l.length := by
  unfold kinds
  have : ∀ (l : List OB) (m : List (Nat × Int)), (l.foldl kstep m).length ≤ m.length + l.length := by
    intro l
    induction l with
    | nil => intro m; simp
    | cons o l ih =>
      intro m
      have h := ih (kstep m o)
      have h2 : (kstep m o).length ≤ m.length + 1 := by
        unfold kstep; split
        · exact kset_len _ _ _
        · omega
      simp only [List.foldl_cons, List.length_cons]; omega
  simpa using this l []
theorem kinds_lt (l : List OB) : ∀ p ∈ kinds l, p.1 < 18446744073709551616 := by
  unfold kinds
  have : ∀ (l : List OB) (m : List (Nat × Int)), (∀ p ∈ m, p.1 < 18446744073709551616) → ∀ p ∈ l.foldl kstep m, p.1 < 18446744073709551616 := by
    intro l
    induction l with
    | nil => intro m hm; exact hm
    | cons o l ih =>
      intro m hm
      refine ih _ ?_
      unfold kstep; split
      · intro p hp
        unfold kset at hp
        split at hp
        · rcases List.mem_or_eq_of_mem_set hp with h | h
          · exact hm p h
          · rw [h]; exact o.hid
        · rcases List.mem_append.1 hp with h | h
          · exact hm p h
          · rw [List.mem_singleton.1 h]; exact o.hid
      · exact hm
  exact this l [] (by simp)
abbrev n0T : T := .sl 1 .no []
theorem ins0 : Ts.Pure Try.prog 33 [n0T, .int .i64 0, .int .i64 0] (.tup []) := by
  intro off
  refine Bq (N := 49) (rs := []) hG Try.func33 rfl rfl rfl rfl rfl ?_
  repeat' (first
    | ((first | (show AL _ _ _ _ _ _ _ _; refine Ah Y ?_) | (show DL _ _ _ _ _ _ _; refine' A8 Y Y (fun K kk => ?_) ?_; try (show Go.Ts.T; rotate_left))); (first
      | (show AOp _ _ ⟨_, .move _, _, _, _, _⟩ _ _ _; refine Ar hG Y Y ?_)
      | (show AOp _ _ ⟨_, .assign _, _, _, _, _⟩ _ _ _; refine A7 hG Y Y ?_)
      | (show AOp _ _ ⟨_, .binOp .add _ _ _ _, _, _, _, _⟩ _ _ _; first | refine Ab hG Y Y Y Y Y (by omega) ?_)
      | (show AOp _ _ ⟨_, .binOp .sub _ _ _ _, _, _, _, _⟩ _ _ _; first | refine Ab hG Y Y Y Y Y (by omega) ?_)
      | (show AOp _ _ ⟨_, .binOp _ _ _ _ _, _, _, _, _⟩ _ _ _; first | refine Aw hG Y Y Y Y Y (by omega) ?_ | refine Av hG Y Y Y Y Y (by omega) ?_ | ((fail_if_success have := kk); refine Am hG Y Y Y Y Y (fun h => ?_) (fun h => ?_)))
      | (show AOp _ _ ⟨_, .load _ _, _, _, _, _⟩ _ _ _; first | refine A0 hG Y Y Y ?_ | refine Bg 0 hG Y Y Y Y ?_)
      | (show AOp _ _ ⟨_, .indexAddr _ _ _, _, _, _, _⟩ _ _ _; first | refine A1 hG Y Y Y Y Y Y Y (by omega) ?_ | refine Az hG Y Y Y Y Y Y Y (by omega) ?_ | refine Bb hG Y Y ?_)
      | (show AOp _ _ ⟨_, .pick _ _ _, _, _, _, _⟩ _ _ _; refine Ba hG Y Y Y ?_)
      | (show AOp _ _ ⟨_, .store _ _ _, _, _, _, _⟩ _ _ _; first | refine Bk 0 hG Y Y Y Y Y Y Y ?_)
      | refine r_q hG Y Y Y ?_); try exact kk)
    | (show AL _ _ _ _ _ _ _ _; first | refine Bj Y Y Y ?_ | (refine At ?_; first | show AW _ _ _ _ _ _ | show ∃ x', _ < _ ∧ _)) | (show AW _ _ (.seq _ _) _ _ _; refine Ak ?_; intro Q1) | (show AW _ _ (.region _ _ false) _ _ _; refine Ae ?_; intro O1) | (show AW _ _ (.cond _ _ _) _ _ _; first | refine Aq Y ?_ | refine Ap Y ?_) | (show AW _ _ (.skip) _ _ _; refine Aj ?_; first | show AW _ _ _ _ _ _ | show ∃ x', _ < _ ∧ _) | (show AW _ _ (.block _ _) _ _ _; refine Ag ?_; intro Q1) | (show AW _ _ (.exit _) _ _ _; refine Ao ?_; first | show AW _ _ _ _ _ _ | show ∃ x', _ < _ ∧ _) | (show AW _ _ (.ret) _ _ _; refine Ax ?_; try dsimp only [Au, Aa, A4, Af])
    | (show DL _ _ _ _ _ _ _; refine Bu Y Y (fun K kt kf => Am hG Y Y Y Y Y kt kf) (fun h => ?_) (fun h => ?_))
    | (show DL _ _ _ _ _ _ _; refine Bv Y Y Y ?_) | (show DL _ _ _ _ _ _ _; refine Be ?_; first | show AW _ _ _ _ _ _ | show ∃ x', _ < _ ∧ _) | (show AW _ _ (.region _ _ true) _ _ _; refine Ay mix (by kernel_rfl) ?_; intro O1) | fail)
  refine aw_loop (X := Unit) (fun _ => [(2, .int .i64 0), (6, .int .i64 1)]) (fun _ => ⟨[], [], off, none⟩) (fun _ => 0) () (by repeat (first | exact .nil _ | refine .cons rfl ?_)) (.refl _) ?_
  intro _
  repeat' (first
    | ((first | (show AL _ _ _ _ _ _ _ _; refine Ah Y ?_) | (show DL _ _ _ _ _ _ _; refine' A8 Y Y (fun K kk => ?_) ?_; try (show Go.Ts.T; rotate_left))); (first
      | (show AOp _ _ ⟨_, .move _, _, _, _, _⟩ _ _ _; refine Ar hG Y Y ?_)
      | (show AOp _ _ ⟨_, .assign _, _, _, _, _⟩ _ _ _; refine A7 hG Y Y ?_)
      | (show AOp _ _ ⟨_, .binOp .add _ _ _ _, _, _, _, _⟩ _ _ _; first | refine Ab hG Y Y Y Y Y (by omega) ?_)
      | (show AOp _ _ ⟨_, .binOp .sub _ _ _ _, _, _, _, _⟩ _ _ _; first | refine Ab hG Y Y Y Y Y (by omega) ?_)
      | (show AOp _ _ ⟨_, .binOp _ _ _ _ _, _, _, _, _⟩ _ _ _; first | refine Aw hG Y Y Y Y Y (by omega) ?_ | refine Av hG Y Y Y Y Y (by omega) ?_ | ((fail_if_success have := kk); refine Am hG Y Y Y Y Y (fun h => ?_) (fun h => ?_)))
      | (show AOp _ _ ⟨_, .load _ _, _, _, _, _⟩ _ _ _; first | refine A0 hG Y Y Y ?_ | refine Bg 0 hG Y Y Y Y ?_)
      | (show AOp _ _ ⟨_, .indexAddr _ _ _, _, _, _, _⟩ _ _ _; first | refine A1 hG Y Y Y Y Y Y Y (by omega) ?_ | refine Az hG Y Y Y Y Y Y Y (by omega) ?_ | refine Bb hG Y Y ?_)
      | (show AOp _ _ ⟨_, .pick _ _ _, _, _, _, _⟩ _ _ _; refine Ba hG Y Y Y ?_)
      | (show AOp _ _ ⟨_, .store _ _ _, _, _, _, _⟩ _ _ _; first | refine Bk 0 hG Y Y Y Y Y Y Y ?_)
      | refine r_q hG Y Y Y ?_); try exact kk)
    | (show AL _ _ _ _ _ _ _ _; first | refine Bj Y Y Y ?_ | (refine At ?_; first | show AW _ _ _ _ _ _ | show ∃ x', _ < _ ∧ _)) | (show AW _ _ (.seq _ _) _ _ _; refine Ak ?_; intro Q1) | (show AW _ _ (.region _ _ false) _ _ _; refine Ae ?_; intro O1) | (show AW _ _ (.cond _ _ _) _ _ _; first | refine Aq Y ?_ | refine Ap Y ?_) | (show AW _ _ (.skip) _ _ _; refine Aj ?_; first | show AW _ _ _ _ _ _ | show ∃ x', _ < _ ∧ _) | (show AW _ _ (.block _ _) _ _ _; refine Ag ?_; intro Q1) | (show AW _ _ (.exit _) _ _ _; refine Ao ?_; first | show AW _ _ _ _ _ _ | show ∃ x', _ < _ ∧ _) | (show AW _ _ (.ret) _ _ _; refine Ax ?_; try dsimp only [Au, Aa, A4, Af])
    | (show DL _ _ _ _ _ _ _; refine Bu Y Y (fun K kt kf => Am hG Y Y Y Y Y kt kf) (fun h => ?_) (fun h => ?_))
    | (show DL _ _ _ _ _ _ _; refine Bv Y Y Y ?_) | (show DL _ _ _ _ _ _ _; refine Be ?_; first | show AW _ _ _ _ _ _ | show ∃ x', _ < _ ∧ _) | (show AW _ _ (.region _ _ true) _ _ _; refine Ay mix (by kernel_rfl) ?_; intro O1) | fail)
  refine Ao ?_
  exact ret_pureE Bn (.refl _) rfl
theorem pdq0 : Ts.Pure Try.prog 29 [n0T, .int .i64 0, .int .i64 0, .int .i64 0] (.tup []) := by
  have h := ins0
  intro off
  refine Bq (N := 134) (rs := []) hG Try.func29 rfl rfl rfl rfl rfl ?_
  repeat' (first
    | ((first | (show AL _ _ _ _ _ _ _ _; refine Ah Y ?_) | (show DL _ _ _ _ _ _ _; refine' A8 Y Y (fun K kk => ?_) ?_; try (show Go.Ts.T; rotate_left))); (first
      | (show AOp _ _ ⟨_, .move _, _, _, _, _⟩ _ _ _; refine Ar hG Y Y ?_)
      | (show AOp _ _ ⟨_, .assign _, _, _, _, _⟩ _ _ _; refine A7 hG Y Y ?_)
      | (show AOp _ _ ⟨_, .binOp .add _ _ _ _, _, _, _, _⟩ _ _ _; first | refine Ab hG Y Y Y Y Y (by omega) ?_)
      | (show AOp _ _ ⟨_, .binOp .sub _ _ _ _, _, _, _, _⟩ _ _ _; first | refine Ab hG Y Y Y Y Y (by omega) ?_)
      | (show AOp _ _ ⟨_, .binOp _ _ _ _ _, _, _, _, _⟩ _ _ _; first | refine Aw hG Y Y Y Y Y (by omega) ?_ | refine Av hG Y Y Y Y Y (by omega) ?_ | ((fail_if_success have := kk); refine Am hG Y Y Y Y Y (fun h => ?_) (fun h => ?_)) | refine Bs hG Y Y Y ?_)
      | (show AOp _ _ ⟨_, .load _ _, _, _, _, _⟩ _ _ _; first | refine A0 hG Y Y Y ?_ | refine Bg 0 hG Y Y Y Y ?_)
      | (show AOp _ _ ⟨_, .indexAddr _ _ _, _, _, _, _⟩ _ _ _; first | refine A1 hG Y Y Y Y Y Y Y (by omega) ?_ | refine Az hG Y Y Y Y Y Y Y (by omega) ?_ | refine Bb hG Y Y ?_)
      | (show AOp _ _ ⟨_, .pick _ _ _, _, _, _, _⟩ _ _ _; refine Ba hG Y Y Y ?_)
      | (show AOp _ _ ⟨_, .unOp _ _ _, _, _, _, _⟩ _ _ _; refine Bo hG Y Y Y ?_)
      | refine r_q hG Y Y Y ?_); try exact kk)
    | (show AL _ _ _ _ _ _ _ _; first | refine Bj Y Y Y ?_ | (refine At ?_; first | show AW _ _ _ _ _ _ | show ∃ x', _ < _ ∧ _)) | (show AW _ _ (.seq _ _) _ _ _; refine Ak ?_; intro Q1) | (show AW _ _ (.region _ _ false) _ _ _; refine Ae ?_; intro O1) | (show AW _ _ (.cond _ _ _) _ _ _; first | refine Aq Y ?_ | refine Ap Y ?_) | (show AW _ _ (.skip) _ _ _; refine Aj ?_; first | show AW _ _ _ _ _ _ | show ∃ x', _ < _ ∧ _) | (show AW _ _ (.block _ _) _ _ _; refine Ag ?_; intro Q1) | (show AW _ _ (.exit _) _ _ _; refine Ao ?_; first | show AW _ _ _ _ _ _ | show ∃ x', _ < _ ∧ _) | (show AW _ _ (.ret) _ _ _; refine Ax ?_; try dsimp only [Au, Aa, A4, Af])
    | (show DL _ _ _ _ _ _ _; refine Bu Y Y (fun K kt kf => Am hG Y Y Y Y Y kt kf) (fun h => ?_) (fun h => ?_))
    | (show DL _ _ _ _ _ _ _; refine Bv Y Y Y ?_) | (show DL _ _ _ _ _ _ _; refine Be ?_; first | show AW _ _ _ _ _ _ | show ∃ x', _ < _ ∧ _) | (show AW _ _ (.region _ _ true) _ _ _; refine Ay mix (by kernel_rfl) ?_; intro O1) | fail)
  refine aw_loop (X := Unit) (fun _ => [(0, n0T), (1, .int .i64 0), (2, .int .i64 0), (3, .int .i64 0)]) (fun _ => ⟨[], [], off, none⟩) (fun _ => 0) () (by repeat (first | exact .nil _ | refine .cons rfl ?_)) (.refl _) ?_
  intro _
  repeat' (first
    | ((first | (show AL _ _ _ _ _ _ _ _; refine Ah Y ?_) | (show DL _ _ _ _ _ _ _; refine' A8 Y Y (fun K kk => ?_) ?_; try (show Go.Ts.T; rotate_left))); (first
      | (show AOp _ _ ⟨_, .move _, _, _, _, _⟩ _ _ _; refine Ar hG Y Y ?_)
      | (show AOp _ _ ⟨_, .assign _, _, _, _, _⟩ _ _ _; refine A7 hG Y Y ?_)
      | (show AOp _ _ ⟨_, .binOp .add _ _ _ _, _, _, _, _⟩ _ _ _; first | refine Ab hG Y Y Y Y Y (by omega) ?_)
      | (show AOp _ _ ⟨_, .binOp .sub _ _ _ _, _, _, _, _⟩ _ _ _; first | refine Ab hG Y Y Y Y Y (by omega) ?_)
      | (show AOp _ _ ⟨_, .binOp _ _ _ _ _, _, _, _, _⟩ _ _ _; first | refine Aw hG Y Y Y Y Y (by omega) ?_ | refine Av hG Y Y Y Y Y (by omega) ?_ | ((fail_if_success have := kk); refine Am hG Y Y Y Y Y (fun h => ?_) (fun h => ?_)) | refine Bs hG Y Y Y ?_)
      | (show AOp _ _ ⟨_, .load _ _, _, _, _, _⟩ _ _ _; first | refine A0 hG Y Y Y ?_ | refine Bg 0 hG Y Y Y Y ?_)
      | (show AOp _ _ ⟨_, .indexAddr _ _ _, _, _, _, _⟩ _ _ _; first | refine A1 hG Y Y Y Y Y Y Y (by omega) ?_ | refine Az hG Y Y Y Y Y Y Y (by omega) ?_ | refine Bb hG Y Y ?_)
      | (show AOp _ _ ⟨_, .pick _ _ _, _, _, _, _⟩ _ _ _; refine Ba hG Y Y Y ?_)
      | (show AOp _ _ ⟨_, .unOp _ _ _, _, _, _, _⟩ _ _ _; refine Bo hG Y Y Y ?_)
      | (show AOp _ _ ⟨_, .call ⟨.value _, _, _⟩, _, _, _, _⟩ _ _ _; first | refine Bl Y Y Y Y Y (by first | (apply h <;> (first | assumption | omega | exact A2 _ _ | exact Bc _ | exact A9 _ _ | exact Bi _ | rfl | (simp; omega))) | fail) ?_ | fail)
      | refine r_q hG Y Y Y ?_); try exact kk)
    | (show AL _ _ _ _ _ _ _ _; first | refine Bj Y Y Y ?_ | (refine At ?_; first | show AW _ _ _ _ _ _ | show ∃ x', _ < _ ∧ _)) | (show AW _ _ (.seq _ _) _ _ _; refine Ak ?_; intro Q1) | (show AW _ _ (.region _ _ false) _ _ _; refine Ae ?_; intro O1) | (show AW _ _ (.cond _ _ _) _ _ _; first | refine Aq Y ?_ | refine Ap Y ?_) | (show AW _ _ (.skip) _ _ _; refine Aj ?_; first | show AW _ _ _ _ _ _ | show ∃ x', _ < _ ∧ _) | (show AW _ _ (.block _ _) _ _ _; refine Ag ?_; intro Q1) | (show AW _ _ (.exit _) _ _ _; refine Ao ?_; first | show AW _ _ _ _ _ _ | show ∃ x', _ < _ ∧ _) | (show AW _ _ (.ret) _ _ _; refine Ax ?_; try dsimp only [Au, Aa, A4, Af])
    | (show DL _ _ _ _ _ _ _; refine Bu Y Y (fun K kt kf => Am hG Y Y Y Y Y kt kf) (fun h => ?_) (fun h => ?_))
    | (show DL _ _ _ _ _ _ _; refine Bv Y Y Y ?_) | (show DL _ _ _ _ _ _ _; refine Be ?_; first | show AW _ _ _ _ _ _ | show ∃ x', _ < _ ∧ _) | (show AW _ _ (.region _ _ true) _ _ _; refine Ay mix (by kernel_rfl) ?_; intro O1) | fail)
  exact Bz Bn (.refl _) rfl
theorem sort0 : Ts.Pure Try.prog 19 [.nilsl] (.tup []) := by
  refine Pure.weak (us := [n0T]) ?_ (wk1 (.nil 1))
  have h := pdq0
  have h1 := bits_Len (x := 0) (by omega)
  intro off
  refine Bq (N := 11) (rs := []) hG Try.func19 rfl rfl rfl rfl rfl ?_
  repeat' (first
    | ((show AL _ _ _ _ _ _ _ _; refine Ah Y ?_); (first
      | (show AOp _ _ ⟨_, .move _, _, _, _, _⟩ _ _ _; refine Ar hG Y Y ?_)
      | (show AOp _ _ ⟨_, .assign _, _, _, _, _⟩ _ _ _; refine A7 hG Y Y ?_)
      | (show AOp _ _ ⟨_, .call ⟨.builtin .len, _, _⟩, _, _, _, _⟩ _ _ _; first | refine Br hG Y Y Y Y ?_ | refine B6 hG Y Y Y Y Y ?_)
      | (show AOp _ _ ⟨_, .convert _ _ _, _, _, _, _⟩ _ _ _; first | refine r_cv_u64 hG Y Y Y Y Y (by omega) ?_ | refine r_cvw hG Y Y Y Y Y ?_)
      | (show AOp _ _ ⟨_, .call ⟨.value _, _, _⟩, _, _, _, _⟩ _ _ _; first | refine Bl Y Y Y Y Y (by first | (apply h <;> (first | assumption | omega | exact A2 _ _ | exact Bc _ | exact A9 _ _ | exact Bi _ | rfl | (simp; omega))) | fail) ?_ | refine Bl Y Y Y Y Y (by first | (apply h1 <;> (first | assumption | omega | exact A2 _ _ | exact Bc _ | exact A9 _ _ | exact Bi _ | rfl | (simp; omega))) | fail) ?_ | fail)
      | refine r_q hG Y Y Y ?_))
    | (show AL _ _ _ _ _ _ _ _; first | refine Bj Y Y Y ?_ | (refine At ?_; first | show AW _ _ _ _ _ _ | show ∃ x', _ < _ ∧ _)) | (show AW _ _ (.seq _ _) _ _ _; refine Ak ?_; intro Q1) | (show AW _ _ (.region _ _ false) _ _ _; refine Ae ?_; intro O1) | (show AW _ _ (.ret) _ _ _; refine Ax ?_; try dsimp only [Au, Aa, A4, Af]) | fail)
  refine At ?_
  exact ret_pureE Bn (.refl _) rfl
theorem chunks_one : ∀ (n : Nat) (cs : List T), cs.length = n → chunks 1 n cs = cs
  | 0, [], _ => rfl
  | n + 1, c :: cs, h => by
    simp only [chunks, List.headD_cons, List.drop_succ_cons, List.drop_zero, show Nat.beq 1 1 = true from rfl, cond_true]
    rw [chunks_one n cs (by simpa using h)]
def bE : List Nat → Nat → T
  | [], _ => .nilsl
  | x :: l, i => .aref 1 i 0 (x :: l).length none
def bS (off : Nat → Nat → Prop) (k : Nat) : List Nat → Nat → St
  | [], _ => ⟨[], [k], off, none⟩
  | x :: l, i => ⟨[(i, .cells (rowT mT (x :: l).toArray))], [k], off, none⟩
theorem rowN_snoc (l : List Nat) (c : Nat) : (rowT mT l.toArray).drop 0 ++ flat [mT c] = rowT mT (l ++ [c]).toArray := by
  unfold rowT; simp [flat, Ac]
def srtL (l : List Nat) : List Nat := (Go.Sort.sort ltQ l.toArray).toList
def belowP (m : List (Nat × Int)) (lv : List Nat) (id : Nat) : Bool := decide (parN id ∈ lv) && decide (klook m (parN id) = 1)
def nextL (m : List (Nat × Int)) (lv : List Nat) : List Nat := srtL ((m.map (·.1)).filter (belowP m lv))
def reachGo (m : List (Nat × Int)) : Nat → List Nat → List Nat → List Nat
  | 0, _, out => out
  | f + 1, lv, out => if lv = [] then out else reachGo m f (nextL m lv) (out ++ lv)
def reachL (l : List OB) : List Nat := reachGo (kinds l) 8 (if khas (kinds l) 1 = true then [1] else []) []
theorem srtL_spec (l : List Nat) : (srtL l).Perm l ∧ (srtL l).Pairwise (fun x y => ¬ y < x) := by
  obtain ⟨⟨h1, _, h2⟩, h3⟩ := Go.Sort.sort_sorts ltQ ltQ_swo l.toArray
  unfold srtL
  generalize Go.Sort.sort ltQ l.toArray = s at *
  have h5 : s.size = l.length := by simpa using h1
  refine ⟨?_, ?_⟩
  · have h6 : s.toList.Perm (List.take s.size l) := by simpa [← h1] using h2
    rw [h5, List.take_length] at h6; exact h6
  · rw [List.pairwise_iff_getElem]
    intro i j hi hj hij
    have := h3 i j (Nat.zero_le _) hij (by rw [← h1]; simpa using hj)
    rw [getElem!_pos s j (by simpa using hj), getElem!_pos s i (by simpa using hi)] at this
    simpa [ltQ] using this
theorem sorted_eq : ∀ (a b : List Nat), a.Perm b → a.Pairwise (fun x y => ¬ y < x) → b.Pairwise (fun x y => ¬ y < x) → a = b
  | [], b, h, _, _ => h.nil_eq
  | x :: a, [], h, _, _ => absurd h.length_eq (by simp)
  | x :: a, y :: b, h, ha, hb => by
    obtain ⟨ha1, ha2⟩ := List.pairwise_cons.1 ha
    obtain ⟨hb1, hb2⟩ := List.pairwise_cons.1 hb
    have hxy : x = y := by
      have h1 : ¬ y < x := by
        rcases List.mem_cons.1 (h.mem_iff.2 (List.mem_cons_self : y ∈ y :: b)) with e | e
        · omega
        · exact ha1 y e
      have h2 : ¬ x < y := by
        rcases List.mem_cons.1 (h.mem_iff.1 (List.mem_cons_self : x ∈ x :: a)) with e | e
        · omega
        · exact hb1 x e
      omega
    subst hxy
    rw [sorted_eq a b (List.Perm.cons_inv h) ha2 hb2]
theorem srtL_perm {l l' : List Nat} (h : l.Perm l') : srtL l = srtL l' :=
  sorted_eq _ _ ((srtL_spec l).1.trans (h.trans (srtL_spec l').1.symm)) (srtL_spec l).2 (srtL_spec l').2
theorem srtL_len (l : List Nat) : (srtL l).length = l.length := (srtL_spec l).1.length_eq
theorem nm_mono : ∀ {k i : Nat} {l : List Nat}, nm k i = some l → nm (k + 1) i = some l
  | 0, i, l, h => by
    rw [nm] at h; split at h
    · rename_i h1; subst h1; rw [nm_one]; exact h
    · cases h
  | k + 1, i, l, h => by
    rw [nm] at h; split at h
    · rename_i h1; subst h1; rw [nm_one]; exact h
    · rename_i h1
      split at h
      · rename_i h2
        rw [nm, if_neg h1, if_pos h2]
        cases h3 : nm k (i / 64) with
        | none => rw [h3] at h; cases h
        | some l' => rw [h3] at h; rw [nm_mono h3]; exact h
      · cases h
theorem par_depth {id : Nat} {l : List Nat} (h : nm 6 (parN id) = some l) : ∃ x, nm 6 id = some (x :: l) := by
  have hp : parN id = match nm 6 id with
    | some (_ :: _) => id / 64
    | _ => 0 := rfl
  have h0 : nm 6 0 = none := by decide
  cases e : nm 6 id with
  | none => rw [e] at hp; dsimp only at hp; rw [hp, h0] at h; cases h
  | some l2 =>
    cases l2 with
    | nil => rw [e] at hp; dsimp only at hp; rw [hp, h0] at h; cases h
    | cons x l2 =>
      rw [e] at hp; dsimp only at hp
      rw [hp] at h
      have e2 := e
      rw [nm] at e2
      split at e2
      · cases e2
      · split at e2
        · cases h3 : nm 5 (id / 64) with
          | none => rw [h3] at e2; cases e2
          | some l3 =>
            rw [h3] at e2
            simp at e2
            rw [nm_mono h3] at h
            injection h with h
            exact ⟨x, by rw [← h, e2.2]⟩
        · cases e2
def keysAt (m : List (Nat × Int)) (done : List Nat) : List Nat := done.map fun j => (m.getD j default).1
theorem keys_perm {m : List (Nat × Int)} {done : List Nat} (h1 : done.Nodup) (h2 : ∀ i ∈ done, i < m.length) (h3 : done.length = m.length) : (keysAt m done).Perm (m.map (·.1)) := by
  have hp : done.Perm (List.range m.length) := by
    refine (List.perm_ext_iff_of_nodup h1 List.nodup_range).2 fun i => ?_
    rw [List.mem_range]
    refine ⟨h2 i, fun hi => ?_⟩
    by_cases hm : i ∈ done
    · exact hm
    · have := nodup_le m.length (i :: done) (List.nodup_cons.2 ⟨hm, h1⟩) fun j hj => by
        rcases List.mem_cons.1 hj with rfl | hj
        · exact hi
        · exact h2 j hj
      simp at this; omega
  have e : keysAt m (List.range m.length) = m.map (·.1) := by
    refine List.ext_getElem (by simp [keysAt]) fun i h4 h5 => ?_
    simp [keysAt] at h4
    simp [keysAt, List.getD, h4]
  rw [← e]
  exact hp.map _
structure KdX (l : List OB) where
  i : Nat
  hi : i ≤ l.length
structure RcX (m : List (Nat × Int)) (R : List Nat) where
  f : Nat
  lv : List Nat
  out : List Nat
  k : Nat
  hf : 1 ≤ f ∧ f ≤ 8
  hd : ∀ id ∈ lv, ∃ l, nm 6 id = some l ∧ l.length = 8 - f
  hl : lv.length ≤ 255
  ho : out.length ≤ (8 - f) * 255
  e : reachGo m f lv out = R
set_option maxHeartbeats 1000000 in
theorem walk_Reach {l : List OB} (hl : l.length < 256) : Ts.Pure Try.prog 10 [.sl 13 .no (l.map oT)] (.sl 1 .no ((reachL l).map mT)) := by
  obtain ⟨R, hR⟩ : ∃ R, reachL l = R := ⟨_, rfl⟩
  rw [hR]
  unfold reachL at hR
  obtain ⟨M, hM⟩ : ∃ M, kinds l = M := ⟨_, rfl⟩
  have hml : M.length ≤ 255 := by have := kinds_len l; rw [hM] at this; omega
  rw [hM] at hR
  have hlts : ∀ p ∈ M, p.1 < 18446744073709551616 := hM ▸ kinds_lt l
  intro off
  refine Bq (N := 74) (rs := [.tmp 2]) hG Try.func10 rfl rfl rfl rfl rfl ?_
  repeat' (first
    | ((show AL _ _ _ _ _ _ _ _; refine Ah Y ?_); (first
      | (show AOp _ _ ⟨_, .move _, _, _, _, _⟩ _ _ _; refine Ar hG Y Y ?_)
      | (show AOp _ _ ⟨_, .assign _, _, _, _, _⟩ _ _ _; refine A7 hG Y Y ?_)
      | (show AOp _ _ ⟨_, .call ⟨.builtin .len, _, _⟩, _, _, _, _⟩ _ _ _; first | refine Br hG Y Y Y Y ?_ | refine B6 hG Y Y Y Y Y ?_)
      | (show AOp _ _ ⟨_, .lookup _ _ _ _, _, _, _, _⟩ _ _ _; first | refine r_lookF hG Y Y Y Y Y Y Y Y Y ?_ | refine Cg hG Y Y Y Y Y Y Y Y Y ?_ | refine Bt (n := 0) hG Y Y Y Y Y Y Y Y Y Y ?_ | refine Bt (n := 1) hG Y Y Y Y Y Y Y Y Y Y ?_)
      | (show AOp _ _ ⟨_, .mapUpdate _ _ _ _, _, _, _, _⟩ _ _ _; first | refine B4 0 hG Y Y Y Y Y Y Y Y ?_ | refine B4 1 hG Y Y Y Y Y Y Y Y ?_)
      | (show AOp _ _ ⟨_, .binOp .add _ _ _ _, _, _, _, _⟩ _ _ _; first | refine Ad hG Y Y Y Y Y (by omega) ?_ | refine Ad (m := 1) hG Y Y Y Y Y (by omega) ?_ | refine Ab hG Y Y Y Y Y (by omega) ?_)
      | (show AOp _ _ ⟨_, .binOp _ _ _ _ _, _, _, _, _⟩ _ _ _; first | refine Aw hG Y Y Y Y Y (by omega) ?_ | refine Av hG Y Y Y Y Y (by omega) ?_ | (refine Am hG Y Y Y Y Y (fun h => ?_) (fun h => ?_)))
      | (show AOp _ _ ⟨_, .load _ _, _, _, _, _⟩ _ _ _; first | refine Al (α := Nat) 0 hG Y Y Y Y (by omega) Y ?_ | refine Al (α := Nat) 1 hG Y Y Y Y (by omega) Y ?_ | refine A0 hG Y Y Y ?_ | refine Bg 0 hG Y Y Y Y ?_ | refine Bg 1 hG Y Y Y Y ?_)
      | (show AOp _ _ ⟨_, .indexAddr _ _ _, _, _, _, _⟩ _ _ _; first | refine A3 hG Y Y Y Y Y Y Y (by omega) ?_ | refine A1 hG Y Y Y Y Y Y Y (by omega) ?_ | refine Az hG Y Y Y Y Y Y Y (by omega) ?_ | refine Bb hG Y Y ?_)
      | (show AOp _ _ ⟨_, .pick _ _ _, _, _, _, _⟩ _ _ _; refine Ba hG Y Y Y ?_)
      | (show AOp _ _ ⟨_, .buildSlice _ _ _, _, _, _, _⟩ _ _ _; first | refine r_mk (sz := 1) hG Y Y Y Y Y Y Y ?_)
      | (show AOp _ _ ⟨_, .alloc _, _, _, _, _⟩ _ _ _; refine B8 hG Y Y (fun i => ?_))
      | (show AOp _ _ ⟨_, .store _ _ _, _, _, _, _⟩ _ _ _; first | refine A5 (α := Nat) 0 hG Y Y Y Ac A6 Y Y (by first | omega | (simp only [Array.size_setIfInBounds]; omega)) ?_ | refine A5 (α := Nat) 1 hG Y Y Y Ac A6 Y Y (by first | omega | (simp only [Array.size_setIfInBounds]; omega)) ?_ | refine Bk 0 hG Y Y Y Y Y Y Y ?_ | refine Bk 1 hG Y Y Y Y Y Y Y ?_)
      | (show AOp _ _ ⟨_, .call ⟨.builtin .append, _, _⟩, _, _, _, _⟩ _ _ _; first | refine Bx (sz := 1) (xs := []) hG Y Y Y Y Y Y Y ⟨_, Y⟩ Y Y Y Y Y Y Y (by first | omega | (simp; omega)) (fun k => ?_) | refine B0 0 hG Y Y Y Y Y Y Y ⟨_, Y⟩ Y Y Y Y Y (by first | omega | (simp only [List.length_append, List.length_cons, List.length_nil]; omega)) (fun k => ?_) | fail)
      | refine r_q hG Y Y Y ?_))
    | (show AL _ _ _ _ _ _ _ _; first | refine Bj Y Y Y ?_ | (refine At ?_; first | show AW _ _ _ _ _ _ | show ∃ x', _ < _ ∧ _)) | (show AW _ _ (.seq _ _) _ _ _; refine Ak ?_; intro Q1) | (show AW _ _ (.region _ _ false) _ _ _; refine Ae ?_; intro O1) | (show AW _ _ (.cond _ _ _) _ _ _; first | refine Aq Y ?_ | refine Ap Y ?_ | refine Bf Y (fun h => ?_) (fun h => ?_)) | (show AW _ _ (.skip) _ _ _; refine Aj ?_; first | show AW _ _ _ _ _ _ | show ∃ x', _ < _ ∧ _) | (show AW _ _ (.block _ _) _ _ _; refine Ag ?_; intro Q1) | (show AW _ _ (.exit _) _ _ _; refine Ao ?_; first | show AW _ _ _ _ _ _ | show ∃ x', _ < _ ∧ _) | (show AW _ _ (.goto _) _ _ _; refine Cc ?_; try dsimp only [Au, Aa, A4, Af]) | (show AW _ _ (.ret) _ _ _; refine Ax ?_; try dsimp only [Au, Aa, A4, Af]) | fail)
  refine aw_scope' 0 rfl (X := RcX M R) (fun x => [(3, .mro ((M.map kvT).map Prod.fst) ((M.map kvT).map Prod.snd)), (6, .sl 1 (.tok x.k) (x.out.map mT)), (7, .sl 1 .no (x.lv.map mT))]) (fun x => ⟨[], [x.k], off, none⟩) (fun x => x.f) ?_ ?_
  · clear hR
    rintro ⟨f, lv, out, k, hf, hd, hlv, ho, e⟩
    dsimp only at e ⊢
    by_cases hlv0 : lv = []
    · subst hlv0
      have n1 : ([] : List Nat).length = 0 := rfl
      have e2 : out = R := by
        rw [← e]
        obtain ⟨f, rfl⟩ : ∃ g, f = g + 1 := ⟨f - 1, by omega⟩
        simp [reachGo]
      subst e2
      repeat' (first
    | ((show AL _ _ _ _ _ _ _ _; refine Ah Y ?_); (first
      | (show AOp _ _ ⟨_, .move _, _, _, _, _⟩ _ _ _; refine Ar hG Y Y ?_)
      | (show AOp _ _ ⟨_, .assign _, _, _, _, _⟩ _ _ _; refine A7 hG Y Y ?_)
      | (show AOp _ _ ⟨_, .call ⟨.builtin .len, _, _⟩, _, _, _, _⟩ _ _ _; first | refine Br hG Y Y Y Y ?_ | refine B6 hG Y Y Y Y Y ?_)
      | (show AOp _ _ ⟨_, .lookup _ _ _ _, _, _, _, _⟩ _ _ _; first | refine r_lookF hG Y Y Y Y Y Y Y Y Y ?_ | refine Cg hG Y Y Y Y Y Y Y Y Y ?_ | refine Bt (n := 0) hG Y Y Y Y Y Y Y Y Y Y ?_ | refine Bt (n := 1) hG Y Y Y Y Y Y Y Y Y Y ?_)
      | (show AOp _ _ ⟨_, .mapUpdate _ _ _ _, _, _, _, _⟩ _ _ _; first | refine B4 0 hG Y Y Y Y Y Y Y Y ?_ | refine B4 1 hG Y Y Y Y Y Y Y Y ?_)
      | (show AOp _ _ ⟨_, .binOp .add _ _ _ _, _, _, _, _⟩ _ _ _; first | refine Ad hG Y Y Y Y Y (by omega) ?_ | refine Ad (m := 1) hG Y Y Y Y Y (by omega) ?_ | refine Ab hG Y Y Y Y Y (by omega) ?_)
      | (show AOp _ _ ⟨_, .binOp _ _ _ _ _, _, _, _, _⟩ _ _ _; first | refine Aw hG Y Y Y Y Y (by omega) ?_ | refine Av hG Y Y Y Y Y (by omega) ?_ | (refine Am hG Y Y Y Y Y (fun h => ?_) (fun h => ?_)))
      | (show AOp _ _ ⟨_, .load _ _, _, _, _, _⟩ _ _ _; first | refine Al (α := Nat) 0 hG Y Y Y Y (by omega) Y ?_ | refine Al (α := Nat) 1 hG Y Y Y Y (by omega) Y ?_ | refine A0 hG Y Y Y ?_ | refine Bg 0 hG Y Y Y Y ?_ | refine Bg 1 hG Y Y Y Y ?_)
      | (show AOp _ _ ⟨_, .indexAddr _ _ _, _, _, _, _⟩ _ _ _; first | refine A3 hG Y Y Y Y Y Y Y (by omega) ?_ | refine A1 hG Y Y Y Y Y Y Y (by omega) ?_ | refine Az hG Y Y Y Y Y Y Y (by omega) ?_ | refine Bb hG Y Y ?_)
      | (show AOp _ _ ⟨_, .pick _ _ _, _, _, _, _⟩ _ _ _; refine Ba hG Y Y Y ?_)
      | (show AOp _ _ ⟨_, .buildSlice _ _ _, _, _, _, _⟩ _ _ _; first | refine r_mk (sz := 1) hG Y Y Y Y Y Y Y ?_)
      | (show AOp _ _ ⟨_, .alloc _, _, _, _, _⟩ _ _ _; refine B8 hG Y Y (fun i => ?_))
      | (show AOp _ _ ⟨_, .store _ _ _, _, _, _, _⟩ _ _ _; first | refine A5 (α := Nat) 0 hG Y Y Y Ac A6 Y Y (by first | omega | (simp only [Array.size_setIfInBounds]; omega)) ?_ | refine A5 (α := Nat) 1 hG Y Y Y Ac A6 Y Y (by first | omega | (simp only [Array.size_setIfInBounds]; omega)) ?_ | refine Bk 0 hG Y Y Y Y Y Y Y ?_ | refine Bk 1 hG Y Y Y Y Y Y Y ?_)
      | (show AOp _ _ ⟨_, .call ⟨.builtin .append, _, _⟩, _, _, _, _⟩ _ _ _; first | refine Bx (sz := 1) (xs := []) hG Y Y Y Y Y Y Y ⟨_, Y⟩ Y Y Y Y Y Y Y (by first | omega | (simp; omega)) (fun k => ?_) | refine B0 0 hG Y Y Y Y Y Y Y ⟨_, Y⟩ Y Y Y Y Y (by first | omega | (simp only [List.length_append, List.length_cons, List.length_nil]; omega)) (fun k => ?_) | fail)
      | refine r_q hG Y Y Y ?_))
    | (show AL _ _ _ _ _ _ _ _; first | refine Bj Y Y Y ?_ | (refine At ?_; first | show AW _ _ _ _ _ _ | show ∃ x', _ < _ ∧ _)) | (show AW _ _ (.seq _ _) _ _ _; refine Ak ?_; intro Q1) | (show AW _ _ (.region _ _ false) _ _ _; refine Ae ?_; intro O1) | (show AW _ _ (.cond _ _ _) _ _ _; first | refine Aq Y ?_ | refine Ap Y ?_ | refine Bf Y (fun h => ?_) (fun h => ?_)) | (show AW _ _ (.skip) _ _ _; refine Aj ?_; first | show AW _ _ _ _ _ _ | show ∃ x', _ < _ ∧ _) | (show AW _ _ (.block _ _) _ _ _; refine Ag ?_; intro Q1) | (show AW _ _ (.exit _) _ _ _; refine Ao ?_; first | show AW _ _ _ _ _ _ | show ∃ x', _ < _ ∧ _) | (show AW _ _ (.goto _) _ _ _; refine Cc ?_; try dsimp only [Au, Aa, A4, Af]) | (show AW _ _ (.ret) _ _ _; refine Ax ?_; try dsimp only [Au, Aa, A4, Af]) | fail)
      refine Bz (Bp rfl Bn) (.own _ _ _) ?_; rfl
    · have hpos : 0 < lv.length := List.length_pos_iff.2 hlv0
      repeat' (first
    | ((show AL _ _ _ _ _ _ _ _; refine Ah Y ?_); (first
      | (show AOp _ _ ⟨_, .move _, _, _, _, _⟩ _ _ _; refine Ar hG Y Y ?_)
      | (show AOp _ _ ⟨_, .assign _, _, _, _, _⟩ _ _ _; refine A7 hG Y Y ?_)
      | (show AOp _ _ ⟨_, .call ⟨.builtin .len, _, _⟩, _, _, _, _⟩ _ _ _; first | refine Br hG Y Y Y Y ?_ | refine B6 hG Y Y Y Y Y ?_)
      | (show AOp _ _ ⟨_, .lookup _ _ _ _, _, _, _, _⟩ _ _ _; first | refine r_lookF hG Y Y Y Y Y Y Y Y Y ?_ | refine Cg hG Y Y Y Y Y Y Y Y Y ?_ | refine Bt (n := 0) hG Y Y Y Y Y Y Y Y Y Y ?_ | refine Bt (n := 1) hG Y Y Y Y Y Y Y Y Y Y ?_)
      | (show AOp _ _ ⟨_, .mapUpdate _ _ _ _, _, _, _, _⟩ _ _ _; first | refine B4 0 hG Y Y Y Y Y Y Y Y ?_ | refine B4 1 hG Y Y Y Y Y Y Y Y ?_)
      | (show AOp _ _ ⟨_, .binOp .add _ _ _ _, _, _, _, _⟩ _ _ _; first | refine Ad hG Y Y Y Y Y (by omega) ?_ | refine Ad (m := 1) hG Y Y Y Y Y (by omega) ?_ | refine Ab hG Y Y Y Y Y (by omega) ?_)
      | (show AOp _ _ ⟨_, .binOp _ _ _ _ _, _, _, _, _⟩ _ _ _; first | refine Aw hG Y Y Y Y Y (by omega) ?_ | refine Av hG Y Y Y Y Y (by omega) ?_ | (refine Am hG Y Y Y Y Y (fun h => ?_) (fun h => ?_)))
      | (show AOp _ _ ⟨_, .load _ _, _, _, _, _⟩ _ _ _; first | refine Al (α := Nat) 0 hG Y Y Y Y (by omega) Y ?_ | refine Al (α := Nat) 1 hG Y Y Y Y (by omega) Y ?_ | refine A0 hG Y Y Y ?_ | refine Bg 0 hG Y Y Y Y ?_ | refine Bg 1 hG Y Y Y Y ?_)
      | (show AOp _ _ ⟨_, .indexAddr _ _ _, _, _, _, _⟩ _ _ _; first | refine A3 hG Y Y Y Y Y Y Y (by omega) ?_ | refine A1 hG Y Y Y Y Y Y Y (by omega) ?_ | refine Az hG Y Y Y Y Y Y Y (by omega) ?_ | refine Bb hG Y Y ?_)
      | (show AOp _ _ ⟨_, .pick _ _ _, _, _, _, _⟩ _ _ _; refine Ba hG Y Y Y ?_)
      | (show AOp _ _ ⟨_, .buildSlice _ _ _, _, _, _, _⟩ _ _ _; first | refine r_mk (sz := 1) hG Y Y Y Y Y Y Y ?_)
      | (show AOp _ _ ⟨_, .alloc _, _, _, _, _⟩ _ _ _; refine B8 hG Y Y (fun i => ?_))
      | (show AOp _ _ ⟨_, .store _ _ _, _, _, _, _⟩ _ _ _; first | refine A5 (α := Nat) 0 hG Y Y Y Ac A6 Y Y (by first | omega | (simp only [Array.size_setIfInBounds]; omega)) ?_ | refine A5 (α := Nat) 1 hG Y Y Y Ac A6 Y Y (by first | omega | (simp only [Array.size_setIfInBounds]; omega)) ?_ | refine Bk 0 hG Y Y Y Y Y Y Y ?_ | refine Bk 1 hG Y Y Y Y Y Y Y ?_)
      | (show AOp _ _ ⟨_, .call ⟨.builtin .append, _, _⟩, _, _, _, _⟩ _ _ _; first | refine B0 0 (ys := lv) hG Y Y Y Y Y Y Y ⟨_, Y⟩ Y Y Y Y Y (by simp only [List.length_append, List.length_map, List.length_cons, List.length_nil]; omega) (fun k => ?_) | refine Bx (sz := 1) (xs := []) hG Y Y Y Y Y Y Y ⟨_, Y⟩ Y Y Y Y Y Y Y (by first | omega | (simp; omega)) (fun k => ?_) | refine B0 0 hG Y Y Y Y Y Y Y ⟨_, Y⟩ Y Y Y Y Y (by first | omega | (simp only [List.length_append, List.length_cons, List.length_nil]; omega)) (fun k => ?_) | fail)
      | refine r_q hG Y Y Y ?_))
    | (show AL _ _ _ _ _ _ _ _; first | refine Bj Y Y Y ?_ | (refine At ?_; first | show AW _ _ _ _ _ _ | show ∃ x', _ < _ ∧ _)) | (show AW _ _ (.seq _ _) _ _ _; (fail_if_success show AW _ _ (.seq (.region 17 _ _) _) _ _ _); refine Ak ?_; intro Q1) | (show AW _ _ (.region _ _ false) _ _ _; refine Ae ?_; intro O1) | (show AW _ _ (.cond _ _ _) _ _ _; first | refine Aq Y ?_ | refine Ap Y ?_ | refine Bf Y (fun h => ?_) (fun h => ?_)) | (show AW _ _ (.skip) _ _ _; refine Aj ?_; first | show AW _ _ _ _ _ _ | show ∃ x', _ < _ ∧ _) | (show AW _ _ (.block _ _) _ _ _; refine Ag ?_; intro Q1) | (show AW _ _ (.exit _) _ _ _; refine Ao ?_; first | show AW _ _ _ _ _ _ | show ∃ x', _ < _ ∧ _) | (show AW _ _ (.goto _) _ _ _; refine Cc ?_; try dsimp only [Au, Aa, A4, Af]) | (show AW _ _ (.ret) _ _ _; refine Ax ?_; try dsimp only [Au, Aa, A4, Af]) | fail)
      refine aw_range (x0 := 0) hG (E := fun done y => [(3, .mro ((M.map kvT).map Prod.fst) ((M.map kvT).map Prod.snd)), (6, .sl 1 (.tok k) ((out ++ lv).map mT)), (7, .sl 1 .no (lv.map mT)), (10, bE ((keysAt M done).filter (belowP M lv)) y)]) (S := fun done y => bS off k ((keysAt M done).filter (belowP M lv)) y) rfl rfl rfl rfl rfl rfl rfl rfl rfl (fun done y => ⟨rfl, rfl⟩) (fun v => ?_) (.refl _) ?_ ?_
      · repeat (first | exact .nil _ | refine .cons rfl ?_)
      · intro v done y j key u hnd hlt hj hes
        rw [List.getElem?_map] at hes
        obtain ⟨⟨kk, kv⟩, hjm, hkv⟩ := Option.map_eq_some_iff.1 hes
        obtain ⟨rfl, rfl⟩ : (T.int .u64 ((kk : Nat) : Int)) = key ∧ (T.int .i64 kv) = u := by simpa [kvT] using hkv
        have hkk : kk < 18446744073709551616 := hlts (kk, kv) (List.mem_of_getElem? hjm)
        have hP := name_Parent hkk
        have hC := srt_Contains (v := parN kk) (idsT_map .no lv) (by omega)
        have hgl : ((keysAt M done).filter (belowP M lv)).length ≤ 255 := by
          refine Nat.le_trans (List.length_filter_le _ _) ?_
          have := nodup_le _ done hnd hlt
          simp [keysAt] at this ⊢; omega
        have hgs : (keysAt M (done ++ [j])).filter (belowP M lv) = (keysAt M done).filter (belowP M lv) ++ (if belowP M lv kk = true then [kk] else []) := by
          have : keysAt M (done ++ [j]) = keysAt M done ++ [kk] := by simp [keysAt, List.getD, hjm]
          rw [this, List.filter_append]
          congr 1
          by_cases hb : belowP M lv kk = true <;> simp [hb]
        have hbp : belowP M lv kk = (decide (parN kk ∈ lv) && decide (klook M (parN kk) = 1)) := rfl
        rw [hgs, hbp]
        generalize (keysAt M done).filter (belowP M lv) = g at *
        clear hgs hbp hes hkv hd e ho
        generalize parN kk = p at *
        by_cases hin : p ∈ lv
        · rw [decide_eq_true hin] at hC
          by_cases hk1 : klook M p = 1
          · rw [decide_eq_true hin, decide_eq_true hk1]
            cases g with
            | nil =>
              repeat' (first
    | ((show AL _ _ _ _ _ _ _ _; refine Ah Y ?_); (first
      | (show AOp _ _ ⟨_, .move _, _, _, _, _⟩ _ _ _; refine Ar hG Y Y ?_)
      | (show AOp _ _ ⟨_, .assign _, _, _, _, _⟩ _ _ _; refine A7 hG Y Y ?_)
      | (show AOp _ _ ⟨_, .call ⟨.builtin .len, _, _⟩, _, _, _, _⟩ _ _ _; first | refine Br hG Y Y Y Y ?_ | refine B6 hG Y Y Y Y Y ?_)
      | (show AOp _ _ ⟨_, .lookup _ _ _ _, _, _, _, _⟩ _ _ _; first | refine r_lookF hG Y Y Y Y Y Y Y Y Y ?_ | refine Cg hG Y Y Y Y Y Y Y Y Y ?_ | refine Bt (n := 0) hG Y Y Y Y Y Y Y Y Y Y ?_ | refine Bt (n := 1) hG Y Y Y Y Y Y Y Y Y Y ?_)
      | (show AOp _ _ ⟨_, .mapUpdate _ _ _ _, _, _, _, _⟩ _ _ _; first | refine B4 0 hG Y Y Y Y Y Y Y Y ?_ | refine B4 1 hG Y Y Y Y Y Y Y Y ?_)
      | (show AOp _ _ ⟨_, .binOp .add _ _ _ _, _, _, _, _⟩ _ _ _; first | refine Ad hG Y Y Y Y Y (by omega) ?_ | refine Ad (m := 1) hG Y Y Y Y Y (by omega) ?_ | refine Ab hG Y Y Y Y Y (by omega) ?_)
      | (show AOp _ _ ⟨_, .binOp _ _ _ _ _, _, _, _, _⟩ _ _ _; first | refine Aw hG Y Y Y Y Y (by omega) ?_ | refine Av hG Y Y Y Y Y (by omega) ?_ | (refine Am hG Y Y Y Y Y (fun h => ?_) (fun h => ?_)))
      | (show AOp _ _ ⟨_, .load _ _, _, _, _, _⟩ _ _ _; first | refine Al (α := Nat) 0 hG Y Y Y Y (by omega) Y ?_ | refine Al (α := Nat) 1 hG Y Y Y Y (by omega) Y ?_ | refine A0 hG Y Y Y ?_ | refine Bg 0 hG Y Y Y Y ?_ | refine Bg 1 hG Y Y Y Y ?_)
      | (show AOp _ _ ⟨_, .indexAddr _ _ _, _, _, _, _⟩ _ _ _; first | refine A3 hG Y Y Y Y Y Y Y (by omega) ?_ | refine A1 hG Y Y Y Y Y Y Y (by omega) ?_ | refine Az hG Y Y Y Y Y Y Y (by omega) ?_ | refine Bb hG Y Y ?_)
      | (show AOp _ _ ⟨_, .pick _ _ _, _, _, _, _⟩ _ _ _; refine Ba hG Y Y Y ?_)
      | (show AOp _ _ ⟨_, .buildSlice _ _ _, _, _, _, _⟩ _ _ _; first | refine r_mk (sz := 1) hG Y Y Y Y Y Y Y ?_)
      | (show AOp _ _ ⟨_, .alloc _, _, _, _, _⟩ _ _ _; refine B8 hG Y Y (fun i => ?_))
      | (show AOp _ _ ⟨_, .store _ _ _, _, _, _, _⟩ _ _ _; first | refine A5 (α := Nat) 0 hG Y Y Y Ac A6 Y Y (by first | omega | (simp only [Array.size_setIfInBounds]; omega)) ?_ | refine A5 (α := Nat) 1 hG Y Y Y Ac A6 Y Y (by first | omega | (simp only [Array.size_setIfInBounds]; omega)) ?_ | refine Bk 0 hG Y Y Y Y Y Y Y ?_ | refine Bk 1 hG Y Y Y Y Y Y Y ?_)
      | (show AOp _ _ ⟨_, .call ⟨.builtin .append, _, _⟩, _, _, _, _⟩ _ _ _; fail)
      | (show AOp _ _ ⟨_, .call ⟨.value _, _, _⟩, _, _, _, _⟩ _ _ _; first | refine Bl Y Y Y Y Y (by first | (apply hP <;> (first | assumption | omega | exact A2 _ _ | exact Bc _ | exact A9 _ _ | exact Bi _ | rfl | (simp; omega))) | fail) ?_ | refine Bl Y Y Y Y Y (by first | (apply hC <;> (first | assumption | omega | exact A2 _ _ | exact Bc _ | exact A9 _ _ | exact Bi _ | rfl | (simp; omega))) | fail) ?_ | fail)
      | refine r_q hG Y Y Y ?_))
    | (show AL _ _ _ _ _ _ _ _; first | refine Bj Y Y Y ?_ | (refine At ?_; first | show AW _ _ _ _ _ _ | show ∃ x', _ < _ ∧ _)) | (show AW _ _ (.seq _ _) _ _ _; refine Ak ?_; intro Q1) | (show AW _ _ (.region _ _ false) _ _ _; refine Ae ?_; intro O1) | (show AW _ _ (.cond _ _ _) _ _ _; first | refine Aq Y ?_ | refine Ap Y ?_ | refine Bf Y (fun h => ?_) (fun h => ?_)) | (show AW _ _ (.skip) _ _ _; refine Aj ?_; first | show AW _ _ _ _ _ _ | show ∃ x', _ < _ ∧ _) | (show AW _ _ (.block _ _) _ _ _; refine Ag ?_; intro Q1) | (show AW _ _ (.exit _) _ _ _; refine Ao ?_; first | show AW _ _ _ _ _ _ | show ∃ x', _ < _ ∧ _) | (show AW _ _ (.goto _) _ _ _; refine Cc ?_; try dsimp only [Au, Aa, A4, Af]) | (show AW _ _ (.ret) _ _ _; refine Ax ?_; try dsimp only [Au, Aa, A4, Af]) | fail)
              refine Ah rfl (aop_app0L (objs := fun _ => none) hG rfl rfl rfl rfl rfl ⟨_, rfl⟩ rfl rfl (fun i o h => by cases h) rfl rfl (by simp) (by simp) rfl (fun i' hi' => ?_))
              repeat' (first
    | ((show AL _ _ _ _ _ _ _ _; refine Ah Y ?_); (first
      | (show AOp _ _ ⟨_, .move _, _, _, _, _⟩ _ _ _; refine Ar hG Y Y ?_)
      | (show AOp _ _ ⟨_, .assign _, _, _, _, _⟩ _ _ _; refine A7 hG Y Y ?_)
      | (show AOp _ _ ⟨_, .call ⟨.builtin .len, _, _⟩, _, _, _, _⟩ _ _ _; first | refine Br hG Y Y Y Y ?_ | refine B6 hG Y Y Y Y Y ?_)
      | (show AOp _ _ ⟨_, .lookup _ _ _ _, _, _, _, _⟩ _ _ _; first | refine r_lookF hG Y Y Y Y Y Y Y Y Y ?_ | refine Cg hG Y Y Y Y Y Y Y Y Y ?_ | refine Bt (n := 0) hG Y Y Y Y Y Y Y Y Y Y ?_ | refine Bt (n := 1) hG Y Y Y Y Y Y Y Y Y Y ?_)
      | (show AOp _ _ ⟨_, .mapUpdate _ _ _ _, _, _, _, _⟩ _ _ _; first | refine B4 0 hG Y Y Y Y Y Y Y Y ?_ | refine B4 1 hG Y Y Y Y Y Y Y Y ?_)
      | (show AOp _ _ ⟨_, .binOp .add _ _ _ _, _, _, _, _⟩ _ _ _; first | refine Ad hG Y Y Y Y Y (by omega) ?_ | refine Ad (m := 1) hG Y Y Y Y Y (by omega) ?_ | refine Ab hG Y Y Y Y Y (by omega) ?_)
      | (show AOp _ _ ⟨_, .binOp _ _ _ _ _, _, _, _, _⟩ _ _ _; first | refine Aw hG Y Y Y Y Y (by omega) ?_ | refine Av hG Y Y Y Y Y (by omega) ?_ | (refine Am hG Y Y Y Y Y (fun h => ?_) (fun h => ?_)))
      | (show AOp _ _ ⟨_, .load _ _, _, _, _, _⟩ _ _ _; first | refine Al (α := Nat) 0 hG Y Y Y Y (by omega) Y ?_ | refine Al (α := Nat) 1 hG Y Y Y Y (by omega) Y ?_ | refine A0 hG Y Y Y ?_ | refine Bg 0 hG Y Y Y Y ?_ | refine Bg 1 hG Y Y Y Y ?_)
      | (show AOp _ _ ⟨_, .indexAddr _ _ _, _, _, _, _⟩ _ _ _; first | refine A3 hG Y Y Y Y Y Y Y (by omega) ?_ | refine A1 hG Y Y Y Y Y Y Y (by omega) ?_ | refine Az hG Y Y Y Y Y Y Y (by omega) ?_ | refine Bb hG Y Y ?_)
      | (show AOp _ _ ⟨_, .pick _ _ _, _, _, _, _⟩ _ _ _; refine Ba hG Y Y Y ?_)
      | (show AOp _ _ ⟨_, .buildSlice _ _ _, _, _, _, _⟩ _ _ _; first | refine r_mk (sz := 1) hG Y Y Y Y Y Y Y ?_)
      | (show AOp _ _ ⟨_, .alloc _, _, _, _, _⟩ _ _ _; refine B8 hG Y Y (fun i => ?_))
      | (show AOp _ _ ⟨_, .store _ _ _, _, _, _, _⟩ _ _ _; first | refine A5 (α := Nat) 0 hG Y Y Y Ac A6 Y Y (by first | omega | (simp only [Array.size_setIfInBounds]; omega)) ?_ | refine A5 (α := Nat) 1 hG Y Y Y Ac A6 Y Y (by first | omega | (simp only [Array.size_setIfInBounds]; omega)) ?_ | refine Bk 0 hG Y Y Y Y Y Y Y ?_ | refine Bk 1 hG Y Y Y Y Y Y Y ?_)
      | (show AOp _ _ ⟨_, .call ⟨.builtin .append, _, _⟩, _, _, _, _⟩ _ _ _; first | refine Bx (sz := 1) (xs := []) hG Y Y Y Y Y Y Y ⟨_, Y⟩ Y Y Y Y Y Y Y (by first | omega | (simp; omega)) (fun k => ?_) | refine B0 0 hG Y Y Y Y Y Y Y ⟨_, Y⟩ Y Y Y Y Y (by first | omega | (simp only [List.length_append, List.length_cons, List.length_nil]; omega)) (fun k => ?_) | fail)
      | refine r_q hG Y Y Y ?_))
    | (show AL _ _ _ _ _ _ _ _; first | refine Bj Y Y Y ?_ | (refine At ?_; first | show AW _ _ _ _ _ _ | show ∃ x', _ < _ ∧ _)) | (show AW _ _ (.seq _ _) _ _ _; refine Ak ?_; intro Q1) | (show AW _ _ (.region _ _ false) _ _ _; refine Ae ?_; intro O1) | (show AW _ _ (.cond _ _ _) _ _ _; first | refine Aq Y ?_ | refine Ap Y ?_ | refine Bf Y (fun h => ?_) (fun h => ?_)) | (show AW _ _ (.skip) _ _ _; refine Aj ?_; first | show AW _ _ _ _ _ _ | show ∃ x', _ < _ ∧ _) | (show AW _ _ (.block _ _) _ _ _; refine Ag ?_; intro Q1) | (show AW _ _ (.exit _) _ _ _; refine Ao ?_; first | show AW _ _ _ _ _ _ | show ∃ x', _ < _ ∧ _) | (show AW _ _ (.goto _) _ _ _; refine Cc ?_; try dsimp only [Au, Aa, A4, Af]) | (show AW _ _ (.ret) _ _ _; refine Ax ?_; try dsimp only [Au, Aa, A4, Af]) | fail)
              (first | refine At ?_ | refine Aj ?_ | skip); show ∃ y', Knows _ _ ∧ Ts.GStep _ _
              exact ⟨i', .cons rfl (.cons rfl (.cons rfl (.cons rfl (.consW rfl (.eq rfl) (.nil _))))), .refl _⟩
            | cons z g =>
              repeat' (first
    | ((show AL _ _ _ _ _ _ _ _; refine Ah Y ?_); (first
      | (show AOp _ _ ⟨_, .move _, _, _, _, _⟩ _ _ _; refine Ar hG Y Y ?_)
      | (show AOp _ _ ⟨_, .assign _, _, _, _, _⟩ _ _ _; refine A7 hG Y Y ?_)
      | (show AOp _ _ ⟨_, .call ⟨.builtin .len, _, _⟩, _, _, _, _⟩ _ _ _; first | refine Br hG Y Y Y Y ?_ | refine B6 hG Y Y Y Y Y ?_)
      | (show AOp _ _ ⟨_, .lookup _ _ _ _, _, _, _, _⟩ _ _ _; first | refine r_lookF hG Y Y Y Y Y Y Y Y Y ?_ | refine Cg hG Y Y Y Y Y Y Y Y Y ?_ | refine Bt (n := 0) hG Y Y Y Y Y Y Y Y Y Y ?_ | refine Bt (n := 1) hG Y Y Y Y Y Y Y Y Y Y ?_)
      | (show AOp _ _ ⟨_, .mapUpdate _ _ _ _, _, _, _, _⟩ _ _ _; first | refine B4 0 hG Y Y Y Y Y Y Y Y ?_ | refine B4 1 hG Y Y Y Y Y Y Y Y ?_)
      | (show AOp _ _ ⟨_, .binOp .add _ _ _ _, _, _, _, _⟩ _ _ _; first | refine Ad hG Y Y Y Y Y (by omega) ?_ | refine Ad (m := 1) hG Y Y Y Y Y (by omega) ?_ | refine Ab hG Y Y Y Y Y (by omega) ?_)
      | (show AOp _ _ ⟨_, .binOp _ _ _ _ _, _, _, _, _⟩ _ _ _; first | refine Aw hG Y Y Y Y Y (by omega) ?_ | refine Av hG Y Y Y Y Y (by omega) ?_ | (refine Am hG Y Y Y Y Y (fun h => ?_) (fun h => ?_)))
      | (show AOp _ _ ⟨_, .load _ _, _, _, _, _⟩ _ _ _; first | refine Al (α := Nat) 0 hG Y Y Y Y (by omega) Y ?_ | refine Al (α := Nat) 1 hG Y Y Y Y (by omega) Y ?_ | refine A0 hG Y Y Y ?_ | refine Bg 0 hG Y Y Y Y ?_ | refine Bg 1 hG Y Y Y Y ?_)
      | (show AOp _ _ ⟨_, .indexAddr _ _ _, _, _, _, _⟩ _ _ _; first | refine A3 hG Y Y Y Y Y Y Y (by omega) ?_ | refine A1 hG Y Y Y Y Y Y Y (by omega) ?_ | refine Az hG Y Y Y Y Y Y Y (by omega) ?_ | refine Bb hG Y Y ?_)
      | (show AOp _ _ ⟨_, .pick _ _ _, _, _, _, _⟩ _ _ _; refine Ba hG Y Y Y ?_)
      | (show AOp _ _ ⟨_, .buildSlice _ _ _, _, _, _, _⟩ _ _ _; first | refine r_mk (sz := 1) hG Y Y Y Y Y Y Y ?_)
      | (show AOp _ _ ⟨_, .alloc _, _, _, _, _⟩ _ _ _; refine B8 hG Y Y (fun i => ?_))
      | (show AOp _ _ ⟨_, .store _ _ _, _, _, _, _⟩ _ _ _; first | refine A5 (α := Nat) 0 hG Y Y Y Ac A6 Y Y (by first | omega | (simp only [Array.size_setIfInBounds]; omega)) ?_ | refine A5 (α := Nat) 1 hG Y Y Y Ac A6 Y Y (by first | omega | (simp only [Array.size_setIfInBounds]; omega)) ?_ | refine Bk 0 hG Y Y Y Y Y Y Y ?_ | refine Bk 1 hG Y Y Y Y Y Y Y ?_)
      | (show AOp _ _ ⟨_, .call ⟨.builtin .append, _, _⟩, _, _, _, _⟩ _ _ _; fail)
      | (show AOp _ _ ⟨_, .call ⟨.value _, _, _⟩, _, _, _, _⟩ _ _ _; first | refine Bl Y Y Y Y Y (by first | (apply hP <;> (first | assumption | omega | exact A2 _ _ | exact Bc _ | exact A9 _ _ | exact Bi _ | rfl | (simp; omega))) | fail) ?_ | refine Bl Y Y Y Y Y (by first | (apply hC <;> (first | assumption | omega | exact A2 _ _ | exact Bc _ | exact A9 _ _ | exact Bi _ | rfl | (simp; omega))) | fail) ?_ | fail)
      | refine r_q hG Y Y Y ?_))
    | (show AL _ _ _ _ _ _ _ _; first | refine Bj Y Y Y ?_ | (refine At ?_; first | show AW _ _ _ _ _ _ | show ∃ x', _ < _ ∧ _)) | (show AW _ _ (.seq _ _) _ _ _; refine Ak ?_; intro Q1) | (show AW _ _ (.region _ _ false) _ _ _; refine Ae ?_; intro O1) | (show AW _ _ (.cond _ _ _) _ _ _; first | refine Aq Y ?_ | refine Ap Y ?_ | refine Bf Y (fun h => ?_) (fun h => ?_)) | (show AW _ _ (.skip) _ _ _; refine Aj ?_; first | show AW _ _ _ _ _ _ | show ∃ x', _ < _ ∧ _) | (show AW _ _ (.block _ _) _ _ _; refine Ag ?_; intro Q1) | (show AW _ _ (.exit _) _ _ _; refine Ao ?_; first | show AW _ _ _ _ _ _ | show ∃ x', _ < _ ∧ _) | (show AW _ _ (.goto _) _ _ _; refine Cc ?_; try dsimp only [Au, Aa, A4, Af]) | (show AW _ _ (.ret) _ _ _; refine Ax ?_; try dsimp only [Au, Aa, A4, Af]) | fail)
              refine Ah rfl (aop_appL (n := 0) (objs := fun _ => none) hG rfl rfl rfl rfl rfl ⟨_, rfl⟩ rfl rfl ?_ rfl (fun i o h => by cases h) rfl rfl ?_ ?_ rfl (fun i' hi' => ?_))
              · simp [rowT_length]
              · intro q hq; simp [flat, T.cells] at hq; subst hq; rfl
              · simp only [List.length_cons, List.length_nil] at *; omega
              repeat' (first
    | ((show AL _ _ _ _ _ _ _ _; refine Ah Y ?_); (first
      | (show AOp _ _ ⟨_, .move _, _, _, _, _⟩ _ _ _; refine Ar hG Y Y ?_)
      | (show AOp _ _ ⟨_, .assign _, _, _, _, _⟩ _ _ _; refine A7 hG Y Y ?_)
      | (show AOp _ _ ⟨_, .call ⟨.builtin .len, _, _⟩, _, _, _, _⟩ _ _ _; first | refine Br hG Y Y Y Y ?_ | refine B6 hG Y Y Y Y Y ?_)
      | (show AOp _ _ ⟨_, .lookup _ _ _ _, _, _, _, _⟩ _ _ _; first | refine r_lookF hG Y Y Y Y Y Y Y Y Y ?_ | refine Cg hG Y Y Y Y Y Y Y Y Y ?_ | refine Bt (n := 0) hG Y Y Y Y Y Y Y Y Y Y ?_ | refine Bt (n := 1) hG Y Y Y Y Y Y Y Y Y Y ?_)
      | (show AOp _ _ ⟨_, .mapUpdate _ _ _ _, _, _, _, _⟩ _ _ _; first | refine B4 0 hG Y Y Y Y Y Y Y Y ?_ | refine B4 1 hG Y Y Y Y Y Y Y Y ?_)
      | (show AOp _ _ ⟨_, .binOp .add _ _ _ _, _, _, _, _⟩ _ _ _; first | refine Ad hG Y Y Y Y Y (by omega) ?_ | refine Ad (m := 1) hG Y Y Y Y Y (by omega) ?_ | refine Ab hG Y Y Y Y Y (by omega) ?_)
      | (show AOp _ _ ⟨_, .binOp _ _ _ _ _, _, _, _, _⟩ _ _ _; first | refine Aw hG Y Y Y Y Y (by omega) ?_ | refine Av hG Y Y Y Y Y (by omega) ?_ | (refine Am hG Y Y Y Y Y (fun h => ?_) (fun h => ?_)))
      | (show AOp _ _ ⟨_, .load _ _, _, _, _, _⟩ _ _ _; first | refine Al (α := Nat) 0 hG Y Y Y Y (by omega) Y ?_ | refine Al (α := Nat) 1 hG Y Y Y Y (by omega) Y ?_ | refine A0 hG Y Y Y ?_ | refine Bg 0 hG Y Y Y Y ?_ | refine Bg 1 hG Y Y Y Y ?_)
      | (show AOp _ _ ⟨_, .indexAddr _ _ _, _, _, _, _⟩ _ _ _; first | refine A3 hG Y Y Y Y Y Y Y (by omega) ?_ | refine A1 hG Y Y Y Y Y Y Y (by omega) ?_ | refine Az hG Y Y Y Y Y Y Y (by omega) ?_ | refine Bb hG Y Y ?_)
      | (show AOp _ _ ⟨_, .pick _ _ _, _, _, _, _⟩ _ _ _; refine Ba hG Y Y Y ?_)
      | (show AOp _ _ ⟨_, .buildSlice _ _ _, _, _, _, _⟩ _ _ _; first | refine r_mk (sz := 1) hG Y Y Y Y Y Y Y ?_)
      | (show AOp _ _ ⟨_, .alloc _, _, _, _, _⟩ _ _ _; refine B8 hG Y Y (fun i => ?_))
      | (show AOp _ _ ⟨_, .store _ _ _, _, _, _, _⟩ _ _ _; first | refine A5 (α := Nat) 0 hG Y Y Y Ac A6 Y Y (by first | omega | (simp only [Array.size_setIfInBounds]; omega)) ?_ | refine A5 (α := Nat) 1 hG Y Y Y Ac A6 Y Y (by first | omega | (simp only [Array.size_setIfInBounds]; omega)) ?_ | refine Bk 0 hG Y Y Y Y Y Y Y ?_ | refine Bk 1 hG Y Y Y Y Y Y Y ?_)
      | (show AOp _ _ ⟨_, .call ⟨.builtin .append, _, _⟩, _, _, _, _⟩ _ _ _; first | refine Bx (sz := 1) (xs := []) hG Y Y Y Y Y Y Y ⟨_, Y⟩ Y Y Y Y Y Y Y (by first | omega | (simp; omega)) (fun k => ?_) | refine B0 0 hG Y Y Y Y Y Y Y ⟨_, Y⟩ Y Y Y Y Y (by first | omega | (simp only [List.length_append, List.length_cons, List.length_nil]; omega)) (fun k => ?_) | fail)
      | refine r_q hG Y Y Y ?_))
    | (show AL _ _ _ _ _ _ _ _; first | refine Bj Y Y Y ?_ | (refine At ?_; first | show AW _ _ _ _ _ _ | show ∃ x', _ < _ ∧ _)) | (show AW _ _ (.seq _ _) _ _ _; refine Ak ?_; intro Q1) | (show AW _ _ (.region _ _ false) _ _ _; refine Ae ?_; intro O1) | (show AW _ _ (.cond _ _ _) _ _ _; first | refine Aq Y ?_ | refine Ap Y ?_ | refine Bf Y (fun h => ?_) (fun h => ?_)) | (show AW _ _ (.skip) _ _ _; refine Aj ?_; first | show AW _ _ _ _ _ _ | show ∃ x', _ < _ ∧ _) | (show AW _ _ (.block _ _) _ _ _; refine Ag ?_; intro Q1) | (show AW _ _ (.exit _) _ _ _; refine Ao ?_; first | show AW _ _ _ _ _ _ | show ∃ x', _ < _ ∧ _) | (show AW _ _ (.goto _) _ _ _; refine Cc ?_; try dsimp only [Au, Aa, A4, Af]) | (show AW _ _ (.ret) _ _ _; refine Ax ?_; try dsimp only [Au, Aa, A4, Af]) | fail)
              (first | refine At ?_ | refine Aj ?_ | skip); show ∃ y', Knows _ _ ∧ Ts.GStep _ _
              exact ⟨i', .cons rfl (.cons rfl (.cons rfl (.cons rfl (.consW rfl (.eq (by simp [bE])) (.nil _))))), by
                show Go.Ts.GStep ⟨[(i', .cells ((rowT mT (z :: g).toArray).drop 0 ++ flat [mT kk]))], [k], off, none⟩ _
                rw [rowN_snoc]; exact .refl _⟩
          · rw [decide_eq_true hin, decide_eq_false hk1]
            cases g with
            | nil =>
              repeat' (first
    | ((show AL _ _ _ _ _ _ _ _; refine Ah Y ?_); (first
      | (show AOp _ _ ⟨_, .move _, _, _, _, _⟩ _ _ _; refine Ar hG Y Y ?_)
      | (show AOp _ _ ⟨_, .assign _, _, _, _, _⟩ _ _ _; refine A7 hG Y Y ?_)
      | (show AOp _ _ ⟨_, .call ⟨.builtin .len, _, _⟩, _, _, _, _⟩ _ _ _; first | refine Br hG Y Y Y Y ?_ | refine B6 hG Y Y Y Y Y ?_)
      | (show AOp _ _ ⟨_, .lookup _ _ _ _, _, _, _, _⟩ _ _ _; first | refine r_lookF hG Y Y Y Y Y Y Y Y Y ?_ | refine Cg hG Y Y Y Y Y Y Y Y Y ?_ | refine Bt (n := 0) hG Y Y Y Y Y Y Y Y Y Y ?_ | refine Bt (n := 1) hG Y Y Y Y Y Y Y Y Y Y ?_)
      | (show AOp _ _ ⟨_, .mapUpdate _ _ _ _, _, _, _, _⟩ _ _ _; first | refine B4 0 hG Y Y Y Y Y Y Y Y ?_ | refine B4 1 hG Y Y Y Y Y Y Y Y ?_)
      | (show AOp _ _ ⟨_, .binOp .add _ _ _ _, _, _, _, _⟩ _ _ _; first | refine Ad hG Y Y Y Y Y (by omega) ?_ | refine Ad (m := 1) hG Y Y Y Y Y (by omega) ?_ | refine Ab hG Y Y Y Y Y (by omega) ?_)
      | (show AOp _ _ ⟨_, .binOp _ _ _ _ _, _, _, _, _⟩ _ _ _; first | refine Aw hG Y Y Y Y Y (by omega) ?_ | refine Av hG Y Y Y Y Y (by omega) ?_ | (refine Am hG Y Y Y Y Y (fun h => ?_) (fun h => ?_)))
      | (show AOp _ _ ⟨_, .load _ _, _, _, _, _⟩ _ _ _; first | refine Al (α := Nat) 0 hG Y Y Y Y (by omega) Y ?_ | refine Al (α := Nat) 1 hG Y Y Y Y (by omega) Y ?_ | refine A0 hG Y Y Y ?_ | refine Bg 0 hG Y Y Y Y ?_ | refine Bg 1 hG Y Y Y Y ?_)
      | (show AOp _ _ ⟨_, .indexAddr _ _ _, _, _, _, _⟩ _ _ _; first | refine A3 hG Y Y Y Y Y Y Y (by omega) ?_ | refine A1 hG Y Y Y Y Y Y Y (by omega) ?_ | refine Az hG Y Y Y Y Y Y Y (by omega) ?_ | refine Bb hG Y Y ?_)
      | (show AOp _ _ ⟨_, .pick _ _ _, _, _, _, _⟩ _ _ _; refine Ba hG Y Y Y ?_)
      | (show AOp _ _ ⟨_, .buildSlice _ _ _, _, _, _, _⟩ _ _ _; first | refine r_mk (sz := 1) hG Y Y Y Y Y Y Y ?_)
      | (show AOp _ _ ⟨_, .alloc _, _, _, _, _⟩ _ _ _; refine B8 hG Y Y (fun i => ?_))
      | (show AOp _ _ ⟨_, .store _ _ _, _, _, _, _⟩ _ _ _; first | refine A5 (α := Nat) 0 hG Y Y Y Ac A6 Y Y (by first | omega | (simp only [Array.size_setIfInBounds]; omega)) ?_ | refine A5 (α := Nat) 1 hG Y Y Y Ac A6 Y Y (by first | omega | (simp only [Array.size_setIfInBounds]; omega)) ?_ | refine Bk 0 hG Y Y Y Y Y Y Y ?_ | refine Bk 1 hG Y Y Y Y Y Y Y ?_)
      | (show AOp _ _ ⟨_, .call ⟨.builtin .append, _, _⟩, _, _, _, _⟩ _ _ _; first | refine Bx (sz := 1) (xs := []) hG Y Y Y Y Y Y Y ⟨_, Y⟩ Y Y Y Y Y Y Y (by first | omega | (simp; omega)) (fun k => ?_) | refine B0 0 hG Y Y Y Y Y Y Y ⟨_, Y⟩ Y Y Y Y Y (by first | omega | (simp only [List.length_append, List.length_cons, List.length_nil]; omega)) (fun k => ?_) | fail)
      | (show AOp _ _ ⟨_, .call ⟨.value _, _, _⟩, _, _, _, _⟩ _ _ _; first | refine Bl Y Y Y Y Y (by first | (apply hP <;> (first | assumption | omega | exact A2 _ _ | exact Bc _ | exact A9 _ _ | exact Bi _ | rfl | (simp; omega))) | fail) ?_ | refine Bl Y Y Y Y Y (by first | (apply hC <;> (first | assumption | omega | exact A2 _ _ | exact Bc _ | exact A9 _ _ | exact Bi _ | rfl | (simp; omega))) | fail) ?_ | fail)
      | refine r_q hG Y Y Y ?_))
    | (show AL _ _ _ _ _ _ _ _; first | refine Bj Y Y Y ?_ | (refine At ?_; first | show AW _ _ _ _ _ _ | show ∃ x', _ < _ ∧ _)) | (show AW _ _ (.seq _ _) _ _ _; refine Ak ?_; intro Q1) | (show AW _ _ (.region _ _ false) _ _ _; refine Ae ?_; intro O1) | (show AW _ _ (.cond _ _ _) _ _ _; first | refine Aq Y ?_ | refine Ap Y ?_ | refine Bf Y (fun h => ?_) (fun h => ?_)) | (show AW _ _ (.skip) _ _ _; refine Aj ?_; first | show AW _ _ _ _ _ _ | show ∃ x', _ < _ ∧ _) | (show AW _ _ (.block _ _) _ _ _; refine Ag ?_; intro Q1) | (show AW _ _ (.exit _) _ _ _; refine Ao ?_; first | show AW _ _ _ _ _ _ | show ∃ x', _ < _ ∧ _) | (show AW _ _ (.goto _) _ _ _; refine Cc ?_; try dsimp only [Au, Aa, A4, Af]) | (show AW _ _ (.ret) _ _ _; refine Ax ?_; try dsimp only [Au, Aa, A4, Af]) | fail)
              (first | refine At ?_ | refine Aj ?_ | skip); show ∃ y', Knows _ _ ∧ Ts.GStep _ _
              exact ⟨y, (by repeat (first | exact .nil _ | refine .cons rfl ?_)), .refl _⟩
            | cons z g =>
              repeat' (first
    | ((show AL _ _ _ _ _ _ _ _; refine Ah Y ?_); (first
      | (show AOp _ _ ⟨_, .move _, _, _, _, _⟩ _ _ _; refine Ar hG Y Y ?_)
      | (show AOp _ _ ⟨_, .assign _, _, _, _, _⟩ _ _ _; refine A7 hG Y Y ?_)
      | (show AOp _ _ ⟨_, .call ⟨.builtin .len, _, _⟩, _, _, _, _⟩ _ _ _; first | refine Br hG Y Y Y Y ?_ | refine B6 hG Y Y Y Y Y ?_)
      | (show AOp _ _ ⟨_, .lookup _ _ _ _, _, _, _, _⟩ _ _ _; first | refine r_lookF hG Y Y Y Y Y Y Y Y Y ?_ | refine Cg hG Y Y Y Y Y Y Y Y Y ?_ | refine Bt (n := 0) hG Y Y Y Y Y Y Y Y Y Y ?_ | refine Bt (n := 1) hG Y Y Y Y Y Y Y Y Y Y ?_)
      | (show AOp _ _ ⟨_, .mapUpdate _ _ _ _, _, _, _, _⟩ _ _ _; first | refine B4 0 hG Y Y Y Y Y Y Y Y ?_ | refine B4 1 hG Y Y Y Y Y Y Y Y ?_)
      | (show AOp _ _ ⟨_, .binOp .add _ _ _ _, _, _, _, _⟩ _ _ _; first | refine Ad hG Y Y Y Y Y (by omega) ?_ | refine Ad (m := 1) hG Y Y Y Y Y (by omega) ?_ | refine Ab hG Y Y Y Y Y (by omega) ?_)
      | (show AOp _ _ ⟨_, .binOp _ _ _ _ _, _, _, _, _⟩ _ _ _; first | refine Aw hG Y Y Y Y Y (by omega) ?_ | refine Av hG Y Y Y Y Y (by omega) ?_ | (refine Am hG Y Y Y Y Y (fun h => ?_) (fun h => ?_)))
      | (show AOp _ _ ⟨_, .load _ _, _, _, _, _⟩ _ _ _; first | refine Al (α := Nat) 0 hG Y Y Y Y (by omega) Y ?_ | refine Al (α := Nat) 1 hG Y Y Y Y (by omega) Y ?_ | refine A0 hG Y Y Y ?_ | refine Bg 0 hG Y Y Y Y ?_ | refine Bg 1 hG Y Y Y Y ?_)
      | (show AOp _ _ ⟨_, .indexAddr _ _ _, _, _, _, _⟩ _ _ _; first | refine A3 hG Y Y Y Y Y Y Y (by omega) ?_ | refine A1 hG Y Y Y Y Y Y Y (by omega) ?_ | refine Az hG Y Y Y Y Y Y Y (by omega) ?_ | refine Bb hG Y Y ?_)
      | (show AOp _ _ ⟨_, .pick _ _ _, _, _, _, _⟩ _ _ _; refine Ba hG Y Y Y ?_)
      | (show AOp _ _ ⟨_, .buildSlice _ _ _, _, _, _, _⟩ _ _ _; first | refine r_mk (sz := 1) hG Y Y Y Y Y Y Y ?_)
      | (show AOp _ _ ⟨_, .alloc _, _, _, _, _⟩ _ _ _; refine B8 hG Y Y (fun i => ?_))
      | (show AOp _ _ ⟨_, .store _ _ _, _, _, _, _⟩ _ _ _; first | refine A5 (α := Nat) 0 hG Y Y Y Ac A6 Y Y (by first | omega | (simp only [Array.size_setIfInBounds]; omega)) ?_ | refine A5 (α := Nat) 1 hG Y Y Y Ac A6 Y Y (by first | omega | (simp only [Array.size_setIfInBounds]; omega)) ?_ | refine Bk 0 hG Y Y Y Y Y Y Y ?_ | refine Bk 1 hG Y Y Y Y Y Y Y ?_)
      | (show AOp _ _ ⟨_, .call ⟨.builtin .append, _, _⟩, _, _, _, _⟩ _ _ _; first | refine Bx (sz := 1) (xs := []) hG Y Y Y Y Y Y Y ⟨_, Y⟩ Y Y Y Y Y Y Y (by first | omega | (simp; omega)) (fun k => ?_) | refine B0 0 hG Y Y Y Y Y Y Y ⟨_, Y⟩ Y Y Y Y Y (by first | omega | (simp only [List.length_append, List.length_cons, List.length_nil]; omega)) (fun k => ?_) | fail)
      | (show AOp _ _ ⟨_, .call ⟨.value _, _, _⟩, _, _, _, _⟩ _ _ _; first | refine Bl Y Y Y Y Y (by first | (apply hP <;> (first | assumption | omega | exact A2 _ _ | exact Bc _ | exact A9 _ _ | exact Bi _ | rfl | (simp; omega))) | fail) ?_ | refine Bl Y Y Y Y Y (by first | (apply hC <;> (first | assumption | omega | exact A2 _ _ | exact Bc _ | exact A9 _ _ | exact Bi _ | rfl | (simp; omega))) | fail) ?_ | fail)
      | refine r_q hG Y Y Y ?_))
    | (show AL _ _ _ _ _ _ _ _; first | refine Bj Y Y Y ?_ | (refine At ?_; first | show AW _ _ _ _ _ _ | show ∃ x', _ < _ ∧ _)) | (show AW _ _ (.seq _ _) _ _ _; refine Ak ?_; intro Q1) | (show AW _ _ (.region _ _ false) _ _ _; refine Ae ?_; intro O1) | (show AW _ _ (.cond _ _ _) _ _ _; first | refine Aq Y ?_ | refine Ap Y ?_ | refine Bf Y (fun h => ?_) (fun h => ?_)) | (show AW _ _ (.skip) _ _ _; refine Aj ?_; first | show AW _ _ _ _ _ _ | show ∃ x', _ < _ ∧ _) | (show AW _ _ (.block _ _) _ _ _; refine Ag ?_; intro Q1) | (show AW _ _ (.exit _) _ _ _; refine Ao ?_; first | show AW _ _ _ _ _ _ | show ∃ x', _ < _ ∧ _) | (show AW _ _ (.goto _) _ _ _; refine Cc ?_; try dsimp only [Au, Aa, A4, Af]) | (show AW _ _ (.ret) _ _ _; refine Ax ?_; try dsimp only [Au, Aa, A4, Af]) | fail)
              (first | refine At ?_ | refine Aj ?_ | skip); show ∃ y', Knows _ _ ∧ Ts.GStep _ _
              exact ⟨y, .cons rfl (.cons rfl (.cons rfl (.cons rfl (.consW rfl (.eq (by simp [bE])) (.nil _))))), by simpa [bS] using .refl _⟩
        · rw [decide_eq_false hin] at hC ⊢
          cases g with
          | nil =>
            repeat' (first
    | ((show AL _ _ _ _ _ _ _ _; refine Ah Y ?_); (first
      | (show AOp _ _ ⟨_, .move _, _, _, _, _⟩ _ _ _; refine Ar hG Y Y ?_)
      | (show AOp _ _ ⟨_, .assign _, _, _, _, _⟩ _ _ _; refine A7 hG Y Y ?_)
      | (show AOp _ _ ⟨_, .call ⟨.builtin .len, _, _⟩, _, _, _, _⟩ _ _ _; first | refine Br hG Y Y Y Y ?_ | refine B6 hG Y Y Y Y Y ?_)
      | (show AOp _ _ ⟨_, .lookup _ _ _ _, _, _, _, _⟩ _ _ _; first | refine r_lookF hG Y Y Y Y Y Y Y Y Y ?_ | refine Cg hG Y Y Y Y Y Y Y Y Y ?_ | refine Bt (n := 0) hG Y Y Y Y Y Y Y Y Y Y ?_ | refine Bt (n := 1) hG Y Y Y Y Y Y Y Y Y Y ?_)
      | (show AOp _ _ ⟨_, .mapUpdate _ _ _ _, _, _, _, _⟩ _ _ _; first | refine B4 0 hG Y Y Y Y Y Y Y Y ?_ | refine B4 1 hG Y Y Y Y Y Y Y Y ?_)
      | (show AOp _ _ ⟨_, .binOp .add _ _ _ _, _, _, _, _⟩ _ _ _; first | refine Ad hG Y Y Y Y Y (by omega) ?_ | refine Ad (m := 1) hG Y Y Y Y Y (by omega) ?_ | refine Ab hG Y Y Y Y Y (by omega) ?_)
      | (show AOp _ _ ⟨_, .binOp _ _ _ _ _, _, _, _, _⟩ _ _ _; first | refine Aw hG Y Y Y Y Y (by omega) ?_ | refine Av hG Y Y Y Y Y (by omega) ?_ | (refine Am hG Y Y Y Y Y (fun h => ?_) (fun h => ?_)))
      | (show AOp _ _ ⟨_, .load _ _, _, _, _, _⟩ _ _ _; first | refine Al (α := Nat) 0 hG Y Y Y Y (by omega) Y ?_ | refine Al (α := Nat) 1 hG Y Y Y Y (by omega) Y ?_ | refine A0 hG Y Y Y ?_ | refine Bg 0 hG Y Y Y Y ?_ | refine Bg 1 hG Y Y Y Y ?_)
      | (show AOp _ _ ⟨_, .indexAddr _ _ _, _, _, _, _⟩ _ _ _; first | refine A3 hG Y Y Y Y Y Y Y (by omega) ?_ | refine A1 hG Y Y Y Y Y Y Y (by omega) ?_ | refine Az hG Y Y Y Y Y Y Y (by omega) ?_ | refine Bb hG Y Y ?_)
      | (show AOp _ _ ⟨_, .pick _ _ _, _, _, _, _⟩ _ _ _; refine Ba hG Y Y Y ?_)
      | (show AOp _ _ ⟨_, .buildSlice _ _ _, _, _, _, _⟩ _ _ _; first | refine r_mk (sz := 1) hG Y Y Y Y Y Y Y ?_)
      | (show AOp _ _ ⟨_, .alloc _, _, _, _, _⟩ _ _ _; refine B8 hG Y Y (fun i => ?_))
      | (show AOp _ _ ⟨_, .store _ _ _, _, _, _, _⟩ _ _ _; first | refine A5 (α := Nat) 0 hG Y Y Y Ac A6 Y Y (by first | omega | (simp only [Array.size_setIfInBounds]; omega)) ?_ | refine A5 (α := Nat) 1 hG Y Y Y Ac A6 Y Y (by first | omega | (simp only [Array.size_setIfInBounds]; omega)) ?_ | refine Bk 0 hG Y Y Y Y Y Y Y ?_ | refine Bk 1 hG Y Y Y Y Y Y Y ?_)
      | (show AOp _ _ ⟨_, .call ⟨.builtin .append, _, _⟩, _, _, _, _⟩ _ _ _; first | refine Bx (sz := 1) (xs := []) hG Y Y Y Y Y Y Y ⟨_, Y⟩ Y Y Y Y Y Y Y (by first | omega | (simp; omega)) (fun k => ?_) | refine B0 0 hG Y Y Y Y Y Y Y ⟨_, Y⟩ Y Y Y Y Y (by first | omega | (simp only [List.length_append, List.length_cons, List.length_nil]; omega)) (fun k => ?_) | fail)
      | (show AOp _ _ ⟨_, .call ⟨.value _, _, _⟩, _, _, _, _⟩ _ _ _; first | refine Bl Y Y Y Y Y (by first | (apply hP <;> (first | assumption | omega | exact A2 _ _ | exact Bc _ | exact A9 _ _ | exact Bi _ | rfl | (simp; omega))) | fail) ?_ | refine Bl Y Y Y Y Y (by first | (apply hC <;> (first | assumption | omega | exact A2 _ _ | exact Bc _ | exact A9 _ _ | exact Bi _ | rfl | (simp; omega))) | fail) ?_ | fail)
      | refine r_q hG Y Y Y ?_))
    | (show AL _ _ _ _ _ _ _ _; first | refine Bj Y Y Y ?_ | (refine At ?_; first | show AW _ _ _ _ _ _ | show ∃ x', _ < _ ∧ _)) | (show AW _ _ (.seq _ _) _ _ _; refine Ak ?_; intro Q1) | (show AW _ _ (.region _ _ false) _ _ _; refine Ae ?_; intro O1) | (show AW _ _ (.cond _ _ _) _ _ _; first | refine Aq Y ?_ | refine Ap Y ?_ | refine Bf Y (fun h => ?_) (fun h => ?_)) | (show AW _ _ (.skip) _ _ _; refine Aj ?_; first | show AW _ _ _ _ _ _ | show ∃ x', _ < _ ∧ _) | (show AW _ _ (.block _ _) _ _ _; refine Ag ?_; intro Q1) | (show AW _ _ (.exit _) _ _ _; refine Ao ?_; first | show AW _ _ _ _ _ _ | show ∃ x', _ < _ ∧ _) | (show AW _ _ (.goto _) _ _ _; refine Cc ?_; try dsimp only [Au, Aa, A4, Af]) | (show AW _ _ (.ret) _ _ _; refine Ax ?_; try dsimp only [Au, Aa, A4, Af]) | fail)
            (first | refine At ?_ | refine Aj ?_ | skip); show ∃ y', Knows _ _ ∧ Ts.GStep _ _
            exact ⟨y, (by repeat (first | exact .nil _ | refine .cons rfl ?_)), .refl _⟩
          | cons z g =>
            repeat' (first
    | ((show AL _ _ _ _ _ _ _ _; refine Ah Y ?_); (first
      | (show AOp _ _ ⟨_, .move _, _, _, _, _⟩ _ _ _; refine Ar hG Y Y ?_)
      | (show AOp _ _ ⟨_, .assign _, _, _, _, _⟩ _ _ _; refine A7 hG Y Y ?_)
      | (show AOp _ _ ⟨_, .call ⟨.builtin .len, _, _⟩, _, _, _, _⟩ _ _ _; first | refine Br hG Y Y Y Y ?_ | refine B6 hG Y Y Y Y Y ?_)
      | (show AOp _ _ ⟨_, .lookup _ _ _ _, _, _, _, _⟩ _ _ _; first | refine r_lookF hG Y Y Y Y Y Y Y Y Y ?_ | refine Cg hG Y Y Y Y Y Y Y Y Y ?_ | refine Bt (n := 0) hG Y Y Y Y Y Y Y Y Y Y ?_ | refine Bt (n := 1) hG Y Y Y Y Y Y Y Y Y Y ?_)
      | (show AOp _ _ ⟨_, .mapUpdate _ _ _ _, _, _, _, _⟩ _ _ _; first | refine B4 0 hG Y Y Y Y Y Y Y Y ?_ | refine B4 1 hG Y Y Y Y Y Y Y Y ?_)
      | (show AOp _ _ ⟨_, .binOp .add _ _ _ _, _, _, _, _⟩ _ _ _; first | refine Ad hG Y Y Y Y Y (by omega) ?_ | refine Ad (m := 1) hG Y Y Y Y Y (by omega) ?_ | refine Ab hG Y Y Y Y Y (by omega) ?_)
      | (show AOp _ _ ⟨_, .binOp _ _ _ _ _, _, _, _, _⟩ _ _ _; first | refine Aw hG Y Y Y Y Y (by omega) ?_ | refine Av hG Y Y Y Y Y (by omega) ?_ | (refine Am hG Y Y Y Y Y (fun h => ?_) (fun h => ?_)))
      | (show AOp _ _ ⟨_, .load _ _, _, _, _, _⟩ _ _ _; first | refine Al (α := Nat) 0 hG Y Y Y Y (by omega) Y ?_ | refine Al (α := Nat) 1 hG Y Y Y Y (by omega) Y ?_ | refine A0 hG Y Y Y ?_ | refine Bg 0 hG Y Y Y Y ?_ | refine Bg 1 hG Y Y Y Y ?_)
      | (show AOp _ _ ⟨_, .indexAddr _ _ _, _, _, _, _⟩ _ _ _; first | refine A3 hG Y Y Y Y Y Y Y (by omega) ?_ | refine A1 hG Y Y Y Y Y Y Y (by omega) ?_ | refine Az hG Y Y Y Y Y Y Y (by omega) ?_ | refine Bb hG Y Y ?_)
      | (show AOp _ _ ⟨_, .pick _ _ _, _, _, _, _⟩ _ _ _; refine Ba hG Y Y Y ?_)
      | (show AOp _ _ ⟨_, .buildSlice _ _ _, _, _, _, _⟩ _ _ _; first | refine r_mk (sz := 1) hG Y Y Y Y Y Y Y ?_)
      | (show AOp _ _ ⟨_, .alloc _, _, _, _, _⟩ _ _ _; refine B8 hG Y Y (fun i => ?_))
      | (show AOp _ _ ⟨_, .store _ _ _, _, _, _, _⟩ _ _ _; first | refine A5 (α := Nat) 0 hG Y Y Y Ac A6 Y Y (by first | omega | (simp only [Array.size_setIfInBounds]; omega)) ?_ | refine A5 (α := Nat) 1 hG Y Y Y Ac A6 Y Y (by first | omega | (simp only [Array.size_setIfInBounds]; omega)) ?_ | refine Bk 0 hG Y Y Y Y Y Y Y ?_ | refine Bk 1 hG Y Y Y Y Y Y Y ?_)
      | (show AOp _ _ ⟨_, .call ⟨.builtin .append, _, _⟩, _, _, _, _⟩ _ _ _; first | refine Bx (sz := 1) (xs := []) hG Y Y Y Y Y Y Y ⟨_, Y⟩ Y Y Y Y Y Y Y (by first | omega | (simp; omega)) (fun k => ?_) | refine B0 0 hG Y Y Y Y Y Y Y ⟨_, Y⟩ Y Y Y Y Y (by first | omega | (simp only [List.length_append, List.length_cons, List.length_nil]; omega)) (fun k => ?_) | fail)
      | (show AOp _ _ ⟨_, .call ⟨.value _, _, _⟩, _, _, _, _⟩ _ _ _; first | refine Bl Y Y Y Y Y (by first | (apply hP <;> (first | assumption | omega | exact A2 _ _ | exact Bc _ | exact A9 _ _ | exact Bi _ | rfl | (simp; omega))) | fail) ?_ | refine Bl Y Y Y Y Y (by first | (apply hC <;> (first | assumption | omega | exact A2 _ _ | exact Bc _ | exact A9 _ _ | exact Bi _ | rfl | (simp; omega))) | fail) ?_ | fail)
      | refine r_q hG Y Y Y ?_))
    | (show AL _ _ _ _ _ _ _ _; first | refine Bj Y Y Y ?_ | (refine At ?_; first | show AW _ _ _ _ _ _ | show ∃ x', _ < _ ∧ _)) | (show AW _ _ (.seq _ _) _ _ _; refine Ak ?_; intro Q1) | (show AW _ _ (.region _ _ false) _ _ _; refine Ae ?_; intro O1) | (show AW _ _ (.cond _ _ _) _ _ _; first | refine Aq Y ?_ | refine Ap Y ?_ | refine Bf Y (fun h => ?_) (fun h => ?_)) | (show AW _ _ (.skip) _ _ _; refine Aj ?_; first | show AW _ _ _ _ _ _ | show ∃ x', _ < _ ∧ _) | (show AW _ _ (.block _ _) _ _ _; refine Ag ?_; intro Q1) | (show AW _ _ (.exit _) _ _ _; refine Ao ?_; first | show AW _ _ _ _ _ _ | show ∃ x', _ < _ ∧ _) | (show AW _ _ (.goto _) _ _ _; refine Cc ?_; try dsimp only [Au, Aa, A4, Af]) | (show AW _ _ (.ret) _ _ _; refine Ax ?_; try dsimp only [Au, Aa, A4, Af]) | fail)
            (first | refine At ?_ | refine Aj ?_ | skip); show ∃ y', Knows _ _ ∧ Ts.GStep _ _
            exact ⟨y, .cons rfl (.cons rfl (.cons rfl (.cons rfl (.consW rfl (.eq (by simp [bE])) (.nil _))))), by simpa [bS] using .refl _⟩
      · intro v done y hnd hlt hfull
        rw [List.length_map] at hfull hlt
        have hp := keys_perm hnd hlt hfull
        have hn : nextL M lv = srtL ((keysAt M done).filter (belowP M lv)) := srtL_perm (hp.symm.filter _)
        have hgl : ((keysAt M done).filter (belowP M lv)).length ≤ 255 := by
          refine Nat.le_trans (List.length_filter_le _ _) ?_
          simp [keysAt]; omega
        have hgd : ∀ id ∈ srtL ((keysAt M done).filter (belowP M lv)), parN id ∈ lv := by
          intro id hid
          have h1 := (List.mem_filter.1 ((srtL_spec _).1.mem_iff.1 hid)).2
          simp only [belowP, Bool.and_eq_true, decide_eq_true_eq] at h1
          exact h1.1
        generalize (keysAt M done).filter (belowP M lv) = g at *
        have hgl2 := srtL_len g
        obtain ⟨f, rfl⟩ : ∃ g, f = g + 1 := ⟨f - 1, by omega⟩
        have e2 : reachGo M f (srtL g) (out ++ lv) = R := by
          rw [← hn, ← e, reachGo, if_neg hlv0]
        have hf1 : 1 ≤ f := by
          obtain ⟨id, hid⟩ : ∃ id, id ∈ lv := List.exists_mem_of_ne_nil _ hlv0
          obtain ⟨l, h1, h2⟩ := hd id hid
          have := (nm_path 6 id l h1).2.1
          omega
        have hdd : ∀ id ∈ srtL g, ∃ l, nm 6 id = some l ∧ l.length = 8 - f := by
          intro id hid
          obtain ⟨l, h1, h2⟩ := hd _ (hgd id hid)
          obtain ⟨x, h3⟩ := par_depth h1
          exact ⟨x :: l, h3, by simp; omega⟩
        have hol : (out ++ lv).length ≤ (8 - f) * 255 := by
          rw [List.length_append, show 8 - f = (8 - (f + 1)) + 1 by omega, Nat.add_mul]; omega
        let X' : RcX M R := ⟨f, srtL g, out ++ lv, k, ⟨hf1, by omega⟩, hdd, by omega, hol, e2⟩
        cases g with
        | nil =>
          have hs0 := sort0
          repeat' (first
    | ((show AL _ _ _ _ _ _ _ _; refine Ah Y ?_); (first
      | (show AOp _ _ ⟨_, .move _, _, _, _, _⟩ _ _ _; refine Ar hG Y Y ?_)
      | (show AOp _ _ ⟨_, .assign _, _, _, _, _⟩ _ _ _; refine A7 hG Y Y ?_)
      | (show AOp _ _ ⟨_, .call ⟨.builtin .len, _, _⟩, _, _, _, _⟩ _ _ _; first | refine Br hG Y Y Y Y ?_ | refine B6 hG Y Y Y Y Y ?_)
      | (show AOp _ _ ⟨_, .lookup _ _ _ _, _, _, _, _⟩ _ _ _; first | refine r_lookF hG Y Y Y Y Y Y Y Y Y ?_ | refine Cg hG Y Y Y Y Y Y Y Y Y ?_ | refine Bt (n := 0) hG Y Y Y Y Y Y Y Y Y Y ?_ | refine Bt (n := 1) hG Y Y Y Y Y Y Y Y Y Y ?_)
      | (show AOp _ _ ⟨_, .mapUpdate _ _ _ _, _, _, _, _⟩ _ _ _; first | refine B4 0 hG Y Y Y Y Y Y Y Y ?_ | refine B4 1 hG Y Y Y Y Y Y Y Y ?_)
      | (show AOp _ _ ⟨_, .binOp .add _ _ _ _, _, _, _, _⟩ _ _ _; first | refine Ad hG Y Y Y Y Y (by omega) ?_ | refine Ad (m := 1) hG Y Y Y Y Y (by omega) ?_ | refine Ab hG Y Y Y Y Y (by omega) ?_)
      | (show AOp _ _ ⟨_, .binOp _ _ _ _ _, _, _, _, _⟩ _ _ _; first | refine Aw hG Y Y Y Y Y (by omega) ?_ | refine Av hG Y Y Y Y Y (by omega) ?_ | (refine Am hG Y Y Y Y Y (fun h => ?_) (fun h => ?_)))
      | (show AOp _ _ ⟨_, .load _ _, _, _, _, _⟩ _ _ _; first | refine Al (α := Nat) 0 hG Y Y Y Y (by omega) Y ?_ | refine Al (α := Nat) 1 hG Y Y Y Y (by omega) Y ?_ | refine A0 hG Y Y Y ?_ | refine Bg 0 hG Y Y Y Y ?_ | refine Bg 1 hG Y Y Y Y ?_)
      | (show AOp _ _ ⟨_, .indexAddr _ _ _, _, _, _, _⟩ _ _ _; first | refine A3 hG Y Y Y Y Y Y Y (by omega) ?_ | refine A1 hG Y Y Y Y Y Y Y (by omega) ?_ | refine Az hG Y Y Y Y Y Y Y (by omega) ?_ | refine Bb hG Y Y ?_)
      | (show AOp _ _ ⟨_, .pick _ _ _, _, _, _, _⟩ _ _ _; refine Ba hG Y Y Y ?_)
      | (show AOp _ _ ⟨_, .buildSlice _ _ _, _, _, _, _⟩ _ _ _; first | refine r_mk (sz := 1) hG Y Y Y Y Y Y Y ?_)
      | (show AOp _ _ ⟨_, .alloc _, _, _, _, _⟩ _ _ _; refine B8 hG Y Y (fun i => ?_))
      | (show AOp _ _ ⟨_, .store _ _ _, _, _, _, _⟩ _ _ _; first | refine A5 (α := Nat) 0 hG Y Y Y Ac A6 Y Y (by first | omega | (simp only [Array.size_setIfInBounds]; omega)) ?_ | refine A5 (α := Nat) 1 hG Y Y Y Ac A6 Y Y (by first | omega | (simp only [Array.size_setIfInBounds]; omega)) ?_ | refine Bk 0 hG Y Y Y Y Y Y Y ?_ | refine Bk 1 hG Y Y Y Y Y Y Y ?_)
      | (show AOp _ _ ⟨_, .call ⟨.builtin .append, _, _⟩, _, _, _, _⟩ _ _ _; first | refine Bx (sz := 1) (xs := []) hG Y Y Y Y Y Y Y ⟨_, Y⟩ Y Y Y Y Y Y Y (by first | omega | (simp; omega)) (fun k => ?_) | refine B0 0 hG Y Y Y Y Y Y Y ⟨_, Y⟩ Y Y Y Y Y (by first | omega | (simp only [List.length_append, List.length_cons, List.length_nil]; omega)) (fun k => ?_) | fail)
      | (show AOp _ _ ⟨_, .call ⟨.value _, _, _⟩, _, _, _, _⟩ _ _ _; first | refine Bl Y Y Y Y Y (by first | (apply hs0 <;> (first | assumption | omega | exact A2 _ _ | exact Bc _ | exact A9 _ _ | exact Bi _ | rfl | (simp; omega))) | fail) ?_ | fail)
      | refine r_q hG Y Y Y ?_))
    | (show AL _ _ _ _ _ _ _ _; first | refine Bj Y Y Y ?_ | (refine At ?_; first | show AW _ _ _ _ _ _ | show ∃ x', _ < _ ∧ _)) | (show AW _ _ (.seq _ _) _ _ _; refine Ak ?_; intro Q1) | (show AW _ _ (.region _ _ false) _ _ _; refine Ae ?_; intro O1) | (show AW _ _ (.cond _ _ _) _ _ _; first | refine Aq Y ?_ | refine Ap Y ?_ | refine Bf Y (fun h => ?_) (fun h => ?_)) | (show AW _ _ (.skip) _ _ _; refine Aj ?_; first | show AW _ _ _ _ _ _ | show ∃ x', _ < _ ∧ _) | (show AW _ _ (.block _ _) _ _ _; refine Ag ?_; intro Q1) | (show AW _ _ (.exit _) _ _ _; refine Ao ?_; first | show AW _ _ _ _ _ _ | show ∃ x', _ < _ ∧ _) | (show AW _ _ (.goto _) _ _ _; refine Cc ?_; try dsimp only [Au, Aa, A4, Af]) | (show AW _ _ (.ret) _ _ _; refine Ax ?_; try dsimp only [Au, Aa, A4, Af]) | fail)
          refine ⟨rfl, X', Nat.lt_succ_self _, .cons rfl (.cons rfl (.consW rfl ?_ (.nil _))), .refl _⟩
          show Wk .nilsl (.sl 1 .no ((srtL []).map mT))
          rw [List.length_eq_zero_iff.1 hgl2]; exact .nil 1
        | cons z g =>
          have hs1 := srt_sort (d0 := (z :: g).toArray) (by simp at hgl ⊢; omega)
          have hsz : (z :: g).toArray.size = (z :: g).length := rfl
          repeat' (first
    | ((show AL _ _ _ _ _ _ _ _; refine Ah Y ?_); (first
      | (show AOp _ _ ⟨_, .move _, _, _, _, _⟩ _ _ _; refine Ar hG Y Y ?_)
      | (show AOp _ _ ⟨_, .assign _, _, _, _, _⟩ _ _ _; refine A7 hG Y Y ?_)
      | (show AOp _ _ ⟨_, .call ⟨.builtin .len, _, _⟩, _, _, _, _⟩ _ _ _; first | refine Br hG Y Y Y Y ?_ | refine B6 hG Y Y Y Y Y ?_)
      | (show AOp _ _ ⟨_, .lookup _ _ _ _, _, _, _, _⟩ _ _ _; first | refine r_lookF hG Y Y Y Y Y Y Y Y Y ?_ | refine Cg hG Y Y Y Y Y Y Y Y Y ?_ | refine Bt (n := 0) hG Y Y Y Y Y Y Y Y Y Y ?_ | refine Bt (n := 1) hG Y Y Y Y Y Y Y Y Y Y ?_)
      | (show AOp _ _ ⟨_, .mapUpdate _ _ _ _, _, _, _, _⟩ _ _ _; first | refine B4 0 hG Y Y Y Y Y Y Y Y ?_ | refine B4 1 hG Y Y Y Y Y Y Y Y ?_)
      | (show AOp _ _ ⟨_, .binOp .add _ _ _ _, _, _, _, _⟩ _ _ _; first | refine Ad hG Y Y Y Y Y (by omega) ?_ | refine Ad (m := 1) hG Y Y Y Y Y (by omega) ?_ | refine Ab hG Y Y Y Y Y (by omega) ?_)
      | (show AOp _ _ ⟨_, .binOp _ _ _ _ _, _, _, _, _⟩ _ _ _; first | refine Aw hG Y Y Y Y Y (by omega) ?_ | refine Av hG Y Y Y Y Y (by omega) ?_ | (refine Am hG Y Y Y Y Y (fun h => ?_) (fun h => ?_)))
      | (show AOp _ _ ⟨_, .load _ _, _, _, _, _⟩ _ _ _; first | refine Al (α := Nat) 0 hG Y Y Y Y (by omega) Y ?_ | refine Al (α := Nat) 1 hG Y Y Y Y (by omega) Y ?_ | refine A0 hG Y Y Y ?_ | refine Bg 0 hG Y Y Y Y ?_ | refine Bg 1 hG Y Y Y Y ?_)
      | (show AOp _ _ ⟨_, .indexAddr _ _ _, _, _, _, _⟩ _ _ _; first | refine A3 hG Y Y Y Y Y Y Y (by omega) ?_ | refine A1 hG Y Y Y Y Y Y Y (by omega) ?_ | refine Az hG Y Y Y Y Y Y Y (by omega) ?_ | refine Bb hG Y Y ?_)
      | (show AOp _ _ ⟨_, .pick _ _ _, _, _, _, _⟩ _ _ _; refine Ba hG Y Y Y ?_)
      | (show AOp _ _ ⟨_, .buildSlice _ _ _, _, _, _, _⟩ _ _ _; first | refine r_mk (sz := 1) hG Y Y Y Y Y Y Y ?_)
      | (show AOp _ _ ⟨_, .alloc _, _, _, _, _⟩ _ _ _; refine B8 hG Y Y (fun i => ?_))
      | (show AOp _ _ ⟨_, .store _ _ _, _, _, _, _⟩ _ _ _; first | refine A5 (α := Nat) 0 hG Y Y Y Ac A6 Y Y (by first | omega | (simp only [Array.size_setIfInBounds]; omega)) ?_ | refine A5 (α := Nat) 1 hG Y Y Y Ac A6 Y Y (by first | omega | (simp only [Array.size_setIfInBounds]; omega)) ?_ | refine Bk 0 hG Y Y Y Y Y Y Y ?_ | refine Bk 1 hG Y Y Y Y Y Y Y ?_)
      | (show AOp _ _ ⟨_, .call ⟨.builtin .append, _, _⟩, _, _, _, _⟩ _ _ _; first | refine Bx (sz := 1) (xs := []) hG Y Y Y Y Y Y Y ⟨_, Y⟩ Y Y Y Y Y Y Y (by first | omega | (simp; omega)) (fun k => ?_) | refine B0 0 hG Y Y Y Y Y Y Y ⟨_, Y⟩ Y Y Y Y Y (by first | omega | (simp only [List.length_append, List.length_cons, List.length_nil]; omega)) (fun k => ?_) | fail)
      | (show AOp _ _ ⟨_, .call ⟨.value _, _, _⟩, _, _, _, _⟩ _ _ _; first | refine r_row Y Y Y Y Y (List.Perm.refl _) hs1 (by assumption) ?_ | fail)
      | refine r_q hG Y Y Y ?_))
    | (show AL _ _ _ _ _ _ _ _; first | refine Bj Y Y Y ?_ | (refine At ?_; first | show AW _ _ _ _ _ _ | show ∃ x', _ < _ ∧ _)) | (show AW _ _ (.seq _ _) _ _ _; refine Ak ?_; intro Q1) | (show AW _ _ (.region _ _ false) _ _ _; (fail_if_success show AW _ _ (.region 24 _ _) _ _ _); refine Ae ?_; intro O1) | (show AW _ _ (.cond _ _ _) _ _ _; first | refine Aq Y ?_ | refine Ap Y ?_ | refine Bf Y (fun h => ?_) (fun h => ?_)) | (show AW _ _ (.skip) _ _ _; refine Aj ?_; first | show AW _ _ _ _ _ _ | show ∃ x', _ < _ ∧ _) | (show AW _ _ (.block _ _) _ _ _; refine Ag ?_; intro Q1) | (show AW _ _ (.exit _) _ _ _; refine Ao ?_; first | show AW _ _ _ _ _ _ | show ∃ x', _ < _ ∧ _) | (show AW _ _ (.goto _) _ _ _; refine Cc ?_; try dsimp only [Au, Aa, A4, Af]) | (show AW _ _ (.ret) _ _ _; refine Ax ?_; try dsimp only [Au, Aa, A4, Af]) | fail)
          have es : rowT mT (Go.Sort.sort ltQ (z :: g).toArray) = (srtL (z :: g)).map mT := by
            unfold srtL rowT; induction (Go.Sort.sort ltQ (z :: g).toArray).toList with
            | nil => rfl
            | cons a l ih => simpa [flat, Ac] using ih
          rw [es]
          have hln : ((srtL (z :: g)).map mT).length = g.length + 1 := by rw [List.length_map, hgl2]; rfl
          refine aw_freeze 0 10 rfl rfl ?_ ?_ ?_
          · rw [hln]; simp
          · refine List.all_eq_true.2 fun c hc => ?_
            obtain ⟨x, _, rfl⟩ := List.mem_map.1 (List.mem_of_mem_drop (List.mem_of_mem_take hc))
            rfl
          have ec : chunks 1 (z :: g).length ((((srtL (z :: g)).map mT).drop 0).take ((z :: g).length * 1)) = (srtL (z :: g)).map mT := by
            rw [List.drop_zero, List.take_of_length_le (by rw [hln]; simp)]
            exact chunks_one _ _ hln
          rw [ec]
          repeat' (first
    | ((show AL _ _ _ _ _ _ _ _; refine Ah Y ?_); (first
      | (show AOp _ _ ⟨_, .move _, _, _, _, _⟩ _ _ _; refine Ar hG Y Y ?_)
      | (show AOp _ _ ⟨_, .assign _, _, _, _, _⟩ _ _ _; refine A7 hG Y Y ?_)
      | (show AOp _ _ ⟨_, .call ⟨.builtin .len, _, _⟩, _, _, _, _⟩ _ _ _; first | refine Br hG Y Y Y Y ?_ | refine B6 hG Y Y Y Y Y ?_)
      | (show AOp _ _ ⟨_, .lookup _ _ _ _, _, _, _, _⟩ _ _ _; first | refine r_lookF hG Y Y Y Y Y Y Y Y Y ?_ | refine Cg hG Y Y Y Y Y Y Y Y Y ?_ | refine Bt (n := 0) hG Y Y Y Y Y Y Y Y Y Y ?_ | refine Bt (n := 1) hG Y Y Y Y Y Y Y Y Y Y ?_)
      | (show AOp _ _ ⟨_, .mapUpdate _ _ _ _, _, _, _, _⟩ _ _ _; first | refine B4 0 hG Y Y Y Y Y Y Y Y ?_ | refine B4 1 hG Y Y Y Y Y Y Y Y ?_)
      | (show AOp _ _ ⟨_, .binOp .add _ _ _ _, _, _, _, _⟩ _ _ _; first | refine Ad hG Y Y Y Y Y (by omega) ?_ | refine Ad (m := 1) hG Y Y Y Y Y (by omega) ?_ | refine Ab hG Y Y Y Y Y (by omega) ?_)
      | (show AOp _ _ ⟨_, .binOp _ _ _ _ _, _, _, _, _⟩ _ _ _; first | refine Aw hG Y Y Y Y Y (by omega) ?_ | refine Av hG Y Y Y Y Y (by omega) ?_ | (refine Am hG Y Y Y Y Y (fun h => ?_) (fun h => ?_)))
      | (show AOp _ _ ⟨_, .load _ _, _, _, _, _⟩ _ _ _; first | refine Al (α := Nat) 0 hG Y Y Y Y (by omega) Y ?_ | refine Al (α := Nat) 1 hG Y Y Y Y (by omega) Y ?_ | refine A0 hG Y Y Y ?_ | refine Bg 0 hG Y Y Y Y ?_ | refine Bg 1 hG Y Y Y Y ?_)
      | (show AOp _ _ ⟨_, .indexAddr _ _ _, _, _, _, _⟩ _ _ _; first | refine A3 hG Y Y Y Y Y Y Y (by omega) ?_ | refine A1 hG Y Y Y Y Y Y Y (by omega) ?_ | refine Az hG Y Y Y Y Y Y Y (by omega) ?_ | refine Bb hG Y Y ?_)
      | (show AOp _ _ ⟨_, .pick _ _ _, _, _, _, _⟩ _ _ _; refine Ba hG Y Y Y ?_)
      | (show AOp _ _ ⟨_, .buildSlice _ _ _, _, _, _, _⟩ _ _ _; first | refine r_mk (sz := 1) hG Y Y Y Y Y Y Y ?_)
      | (show AOp _ _ ⟨_, .alloc _, _, _, _, _⟩ _ _ _; refine B8 hG Y Y (fun i => ?_))
      | (show AOp _ _ ⟨_, .store _ _ _, _, _, _, _⟩ _ _ _; first | refine A5 (α := Nat) 0 hG Y Y Y Ac A6 Y Y (by first | omega | (simp only [Array.size_setIfInBounds]; omega)) ?_ | refine A5 (α := Nat) 1 hG Y Y Y Ac A6 Y Y (by first | omega | (simp only [Array.size_setIfInBounds]; omega)) ?_ | refine Bk 0 hG Y Y Y Y Y Y Y ?_ | refine Bk 1 hG Y Y Y Y Y Y Y ?_)
      | (show AOp _ _ ⟨_, .call ⟨.builtin .append, _, _⟩, _, _, _, _⟩ _ _ _; first | refine Bx (sz := 1) (xs := []) hG Y Y Y Y Y Y Y ⟨_, Y⟩ Y Y Y Y Y Y Y (by first | omega | (simp; omega)) (fun k => ?_) | refine B0 0 hG Y Y Y Y Y Y Y ⟨_, Y⟩ Y Y Y Y Y (by first | omega | (simp only [List.length_append, List.length_cons, List.length_nil]; omega)) (fun k => ?_) | fail)
      | refine r_q hG Y Y Y ?_))
    | (show AL _ _ _ _ _ _ _ _; first | refine Bj Y Y Y ?_ | (refine At ?_; first | show AW _ _ _ _ _ _ | show ∃ x', _ < _ ∧ _)) | (show AW _ _ (.seq _ _) _ _ _; refine Ak ?_; intro Q1) | (show AW _ _ (.region _ _ false) _ _ _; refine Ae ?_; intro O1) | (show AW _ _ (.cond _ _ _) _ _ _; first | refine Aq Y ?_ | refine Ap Y ?_ | refine Bf Y (fun h => ?_) (fun h => ?_)) | (show AW _ _ (.skip) _ _ _; refine Aj ?_; first | show AW _ _ _ _ _ _ | show ∃ x', _ < _ ∧ _) | (show AW _ _ (.block _ _) _ _ _; refine Ag ?_; intro Q1) | (show AW _ _ (.exit _) _ _ _; refine Ao ?_; first | show AW _ _ _ _ _ _ | show ∃ x', _ < _ ∧ _) | (show AW _ _ (.goto _) _ _ _; refine Cc ?_; try dsimp only [Au, Aa, A4, Af]) | (show AW _ _ (.ret) _ _ _; refine Ax ?_; try dsimp only [Au, Aa, A4, Af]) | fail)
          exact ⟨rfl, X', Nat.lt_succ_self _, .cons rfl (.cons rfl (.cons rfl (.nil _))), .refl _⟩
  · intro key
    repeat' (first
    | ((show AL _ _ _ _ _ _ _ _; refine Ah Y ?_); (first
      | (show AOp _ _ ⟨_, .move _, _, _, _, _⟩ _ _ _; refine Ar hG Y Y ?_)
      | (show AOp _ _ ⟨_, .assign _, _, _, _, _⟩ _ _ _; refine A7 hG Y Y ?_)
      | (show AOp _ _ ⟨_, .call ⟨.builtin .len, _, _⟩, _, _, _, _⟩ _ _ _; first | refine Br hG Y Y Y Y ?_ | refine B6 hG Y Y Y Y Y ?_)
      | (show AOp _ _ ⟨_, .lookup _ _ _ _, _, _, _, _⟩ _ _ _; first | refine r_lookF hG Y Y Y Y Y Y Y Y Y ?_ | refine Cg hG Y Y Y Y Y Y Y Y Y ?_ | refine Bt (n := 0) hG Y Y Y Y Y Y Y Y Y Y ?_ | refine Bt (n := 1) hG Y Y Y Y Y Y Y Y Y Y ?_)
      | (show AOp _ _ ⟨_, .mapUpdate _ _ _ _, _, _, _, _⟩ _ _ _; first | refine B4 0 hG Y Y Y Y Y Y Y Y ?_ | refine B4 1 hG Y Y Y Y Y Y Y Y ?_)
      | (show AOp _ _ ⟨_, .binOp .add _ _ _ _, _, _, _, _⟩ _ _ _; first | refine Ad hG Y Y Y Y Y (by omega) ?_ | refine Ad (m := 1) hG Y Y Y Y Y (by omega) ?_ | refine Ab hG Y Y Y Y Y (by omega) ?_)
      | (show AOp _ _ ⟨_, .binOp _ _ _ _ _, _, _, _, _⟩ _ _ _; first | refine Aw hG Y Y Y Y Y (by omega) ?_ | refine Av hG Y Y Y Y Y (by omega) ?_ | (refine Am hG Y Y Y Y Y (fun h => ?_) (fun h => ?_)))
      | (show AOp _ _ ⟨_, .load _ _, _, _, _, _⟩ _ _ _; first | refine Al (α := Nat) 0 hG Y Y Y Y (by omega) Y ?_ | refine Al (α := Nat) 1 hG Y Y Y Y (by omega) Y ?_ | refine A0 hG Y Y Y ?_ | refine Bg 0 hG Y Y Y Y ?_ | refine Bg 1 hG Y Y Y Y ?_)
      | (show AOp _ _ ⟨_, .indexAddr _ _ _, _, _, _, _⟩ _ _ _; first | refine A3 hG Y Y Y Y Y Y Y (by omega) ?_ | refine A1 hG Y Y Y Y Y Y Y (by omega) ?_ | refine Az hG Y Y Y Y Y Y Y (by omega) ?_ | refine Bb hG Y Y ?_)
      | (show AOp _ _ ⟨_, .pick _ _ _, _, _, _, _⟩ _ _ _; refine Ba hG Y Y Y ?_)
      | (show AOp _ _ ⟨_, .buildSlice _ _ _, _, _, _, _⟩ _ _ _; first | refine r_mk (sz := 1) hG Y Y Y Y Y Y Y ?_)
      | (show AOp _ _ ⟨_, .alloc _, _, _, _, _⟩ _ _ _; refine B8 hG Y Y (fun i => ?_))
      | (show AOp _ _ ⟨_, .store _ _ _, _, _, _, _⟩ _ _ _; first | refine A5 (α := Nat) 0 hG Y Y Y Ac A6 Y Y (by first | omega | (simp only [Array.size_setIfInBounds]; omega)) ?_ | refine A5 (α := Nat) 1 hG Y Y Y Ac A6 Y Y (by first | omega | (simp only [Array.size_setIfInBounds]; omega)) ?_ | refine Bk 0 hG Y Y Y Y Y Y Y ?_ | refine Bk 1 hG Y Y Y Y Y Y Y ?_)
      | (show AOp _ _ ⟨_, .call ⟨.builtin .append, _, _⟩, _, _, _, _⟩ _ _ _; first | refine Bx (sz := 1) (xs := []) hG Y Y Y Y Y Y Y ⟨_, Y⟩ Y Y Y Y Y Y Y (by first | omega | (simp; omega)) (fun k => ?_) | refine B0 0 hG Y Y Y Y Y Y Y ⟨_, Y⟩ Y Y Y Y Y (by first | omega | (simp only [List.length_append, List.length_cons, List.length_nil]; omega)) (fun k => ?_) | fail)
      | refine r_q hG Y Y Y ?_))
    | (show AL _ _ _ _ _ _ _ _; first | refine Bj Y Y Y ?_ | (refine At ?_; first | show AW _ _ _ _ _ _ | show ∃ x', _ < _ ∧ _)) | (show AW _ _ (.seq _ _) _ _ _; refine Ak ?_; intro Q1) | (show AW _ _ (.region _ _ false) _ _ _; refine Ae ?_; intro O1) | (show AW _ _ (.cond _ _ _) _ _ _; first | refine Aq Y ?_ | refine Ap Y ?_ | refine Bf Y (fun h => ?_) (fun h => ?_)) | (show AW _ _ (.skip) _ _ _; refine Aj ?_; first | show AW _ _ _ _ _ _ | show ∃ x', _ < _ ∧ _) | (show AW _ _ (.block _ _) _ _ _; refine Ag ?_; intro Q1) | (show AW _ _ (.exit _) _ _ _; refine Ao ?_; first | show AW _ _ _ _ _ _ | show ∃ x', _ < _ ∧ _) | (show AW _ _ (.goto _) _ _ _; refine Cc ?_; try dsimp only [Au, Aa, A4, Af]) | (show AW _ _ (.ret) _ _ _; refine Ax ?_; try dsimp only [Au, Aa, A4, Af]) | fail)
    refine Ah rfl ?_
    refine aop_makeMap hG rfl rfl (fun mi hmi => ?_)
    repeat' (first
    | ((show AL _ _ _ _ _ _ _ _; refine Ah Y ?_); (first
      | (show AOp _ _ ⟨_, .move _, _, _, _, _⟩ _ _ _; refine Ar hG Y Y ?_)
      | (show AOp _ _ ⟨_, .assign _, _, _, _, _⟩ _ _ _; refine A7 hG Y Y ?_)
      | (show AOp _ _ ⟨_, .call ⟨.builtin .len, _, _⟩, _, _, _, _⟩ _ _ _; first | refine Br hG Y Y Y Y ?_ | refine B6 hG Y Y Y Y Y ?_)
      | (show AOp _ _ ⟨_, .lookup _ _ _ _, _, _, _, _⟩ _ _ _; first | refine r_lookF hG Y Y Y Y Y Y Y Y Y ?_ | refine Cg hG Y Y Y Y Y Y Y Y Y ?_ | refine Bt (n := 0) hG Y Y Y Y Y Y Y Y Y Y ?_ | refine Bt (n := 1) hG Y Y Y Y Y Y Y Y Y Y ?_)
      | (show AOp _ _ ⟨_, .mapUpdate _ _ _ _, _, _, _, _⟩ _ _ _; first | refine B4 0 hG Y Y Y Y Y Y Y Y ?_ | refine B4 1 hG Y Y Y Y Y Y Y Y ?_)
      | (show AOp _ _ ⟨_, .binOp .add _ _ _ _, _, _, _, _⟩ _ _ _; first | refine Ad hG Y Y Y Y Y (by omega) ?_ | refine Ad (m := 1) hG Y Y Y Y Y (by omega) ?_ | refine Ab hG Y Y Y Y Y (by omega) ?_)
      | (show AOp _ _ ⟨_, .binOp _ _ _ _ _, _, _, _, _⟩ _ _ _; first | refine Aw hG Y Y Y Y Y (by omega) ?_ | refine Av hG Y Y Y Y Y (by omega) ?_ | (refine Am hG Y Y Y Y Y (fun h => ?_) (fun h => ?_)))
      | (show AOp _ _ ⟨_, .load _ _, _, _, _, _⟩ _ _ _; first | refine Al (α := Nat) 0 hG Y Y Y Y (by omega) Y ?_ | refine Al (α := Nat) 1 hG Y Y Y Y (by omega) Y ?_ | refine A0 hG Y Y Y ?_ | refine Bg 0 hG Y Y Y Y ?_ | refine Bg 1 hG Y Y Y Y ?_)
      | (show AOp _ _ ⟨_, .indexAddr _ _ _, _, _, _, _⟩ _ _ _; first | refine A3 hG Y Y Y Y Y Y Y (by omega) ?_ | refine A1 hG Y Y Y Y Y Y Y (by omega) ?_ | refine Az hG Y Y Y Y Y Y Y (by omega) ?_ | refine Bb hG Y Y ?_)
      | (show AOp _ _ ⟨_, .pick _ _ _, _, _, _, _⟩ _ _ _; refine Ba hG Y Y Y ?_)
      | (show AOp _ _ ⟨_, .buildSlice _ _ _, _, _, _, _⟩ _ _ _; first | refine r_mk (sz := 1) hG Y Y Y Y Y Y Y ?_)
      | (show AOp _ _ ⟨_, .alloc _, _, _, _, _⟩ _ _ _; refine B8 hG Y Y (fun i => ?_))
      | (show AOp _ _ ⟨_, .store _ _ _, _, _, _, _⟩ _ _ _; first | refine A5 (α := Nat) 0 hG Y Y Y Ac A6 Y Y (by first | omega | (simp only [Array.size_setIfInBounds]; omega)) ?_ | refine A5 (α := Nat) 1 hG Y Y Y Ac A6 Y Y (by first | omega | (simp only [Array.size_setIfInBounds]; omega)) ?_ | refine Bk 0 hG Y Y Y Y Y Y Y ?_ | refine Bk 1 hG Y Y Y Y Y Y Y ?_)
      | (show AOp _ _ ⟨_, .call ⟨.builtin .append, _, _⟩, _, _, _, _⟩ _ _ _; first | refine Bx (sz := 1) (xs := []) hG Y Y Y Y Y Y Y ⟨_, Y⟩ Y Y Y Y Y Y Y (by first | omega | (simp; omega)) (fun k => ?_) | refine B0 0 hG Y Y Y Y Y Y Y ⟨_, Y⟩ Y Y Y Y Y (by first | omega | (simp only [List.length_append, List.length_cons, List.length_nil]; omega)) (fun k => ?_) | fail)
      | refine r_q hG Y Y Y ?_))
    | (show AL _ _ _ _ _ _ _ _; first | refine Bj Y Y Y ?_ | (refine At ?_; first | show AW _ _ _ _ _ _ | show ∃ x', _ < _ ∧ _)) | (show AW _ _ (.seq _ _) _ _ _; refine Ak ?_; intro Q1) | (show AW _ _ (.region _ _ false) _ _ _; refine Ae ?_; intro O1) | (show AW _ _ (.cond _ _ _) _ _ _; first | refine Aq Y ?_ | refine Ap Y ?_ | refine Bf Y (fun h => ?_) (fun h => ?_)) | (show AW _ _ (.skip) _ _ _; refine Aj ?_; first | show AW _ _ _ _ _ _ | show ∃ x', _ < _ ∧ _) | (show AW _ _ (.block _ _) _ _ _; refine Ag ?_; intro Q1) | (show AW _ _ (.exit _) _ _ _; refine Ao ?_; first | show AW _ _ _ _ _ _ | show ∃ x', _ < _ ∧ _) | (show AW _ _ (.goto _) _ _ _; refine Cc ?_; try dsimp only [Au, Aa, A4, Af]) | (show AW _ _ (.ret) _ _ _; refine Ax ?_; try dsimp only [Au, Aa, A4, Af]) | fail)
    refine aw_loop (X := KdX l) (fun x => [(3, .map (some mi)), (14, .sl 13 .no (l.map oT)), (15, .int .i64 (l.length : Int)), (16, .int .i64 (x.i : Int))]) (fun x => ⟨[(mi, .map ((kinds (l.take x.i)).map kvT))], [], off, none⟩) (fun x => l.length - x.i) ⟨0, Nat.zero_le _⟩ (by repeat (first | exact .nil _ | refine .cons rfl ?_)) (.refl _) ?_
    rintro ⟨q, hi⟩
    dsimp only
    by_cases hil : q < l.length
    · have hks := kinds_succ hil
      generalize kinds (l.take q) = m at *
      have hid := (l.getD q default).hid
      have hM := name_May hid
      have hsc : (notRaw (oT (l.getD q default)) && (oT (l.getD q default)).cells.all T.scalar) = true := by
        have := (l.getD q default).hs
        simp only [oT, T.cells, notRaw, List.all_cons, T.scalar, Bool.true_and] at this ⊢
        exact this
      have eM : ∃ b, (nm 6 (l.getD q default).id).isSome = b := ⟨_, rfl⟩
      obtain ⟨b, eb⟩ := eM
      rw [eb] at hM
      unfold kstep at hks
      rw [eb] at hks
      cases b with
      | false =>
        rw [if_neg (by simp)] at hks
        repeat' (first
    | ((show AL _ _ _ _ _ _ _ _; refine Ah Y ?_); (first
      | (show AOp _ _ ⟨_, .move _, _, _, _, _⟩ _ _ _; refine Ar hG Y Y ?_)
      | (show AOp _ _ ⟨_, .assign _, _, _, _, _⟩ _ _ _; refine A7 hG Y Y ?_)
      | (show AOp _ _ ⟨_, .call ⟨.builtin .len, _, _⟩, _, _, _, _⟩ _ _ _; first | refine Br hG Y Y Y Y ?_ | refine B6 hG Y Y Y Y Y ?_)
      | (show AOp _ _ ⟨_, .lookup _ _ _ _, _, _, _, _⟩ _ _ _; first | refine r_lookF hG Y Y Y Y Y Y Y Y Y ?_ | refine Cg hG Y Y Y Y Y Y Y Y Y ?_ | refine Bt (n := 0) hG Y Y Y Y Y Y Y Y Y Y ?_ | refine Bt (n := 1) hG Y Y Y Y Y Y Y Y Y Y ?_)
      | (show AOp _ _ ⟨_, .mapUpdate _ _ _ _, _, _, _, _⟩ _ _ _; first | refine B4 0 hG Y Y Y Y Y Y Y Y ?_ | refine B4 1 hG Y Y Y Y Y Y Y Y ?_)
      | (show AOp _ _ ⟨_, .binOp .add _ _ _ _, _, _, _, _⟩ _ _ _; first | refine Ad hG Y Y Y Y Y (by omega) ?_ | refine Ad (m := 1) hG Y Y Y Y Y (by omega) ?_ | refine Ab hG Y Y Y Y Y (by omega) ?_)
      | (show AOp _ _ ⟨_, .binOp _ _ _ _ _, _, _, _, _⟩ _ _ _; first | refine Aw hG Y Y Y Y Y (by omega) ?_ | refine Av hG Y Y Y Y Y (by omega) ?_ | (refine Am hG Y Y Y Y Y (fun h => ?_) (fun h => ?_)))
      | (show AOp _ _ ⟨_, .load _ _, _, _, _, _⟩ _ _ _; first | refine Al (α := Nat) 0 hG Y Y Y Y (by omega) Y ?_ | refine Al (α := Nat) 1 hG Y Y Y Y (by omega) Y ?_ | refine A0 hG Y Y Y ?_ | refine Bg 0 hG Y Y Y Y ?_ | refine Bg 1 hG Y Y Y Y ?_)
      | (show AOp _ _ ⟨_, .indexAddr _ _ _, _, _, _, _⟩ _ _ _; first | refine A3 hG Y Y Y Y Y Y Y (by omega) ?_ | refine A1 hG Y Y Y Y Y Y Y (by omega) ?_ | refine Az hG Y Y Y Y Y Y Y (by omega) ?_ | refine Bb hG Y Y ?_)
      | (show AOp _ _ ⟨_, .pick _ _ _, _, _, _, _⟩ _ _ _; refine Ba hG Y Y Y ?_)
      | (show AOp _ _ ⟨_, .buildSlice _ _ _, _, _, _, _⟩ _ _ _; first | refine r_mk (sz := 1) hG Y Y Y Y Y Y Y ?_)
      | (show AOp _ _ ⟨_, .alloc _, _, _, _, _⟩ _ _ _; refine B8 hG Y Y (fun i => ?_))
      | (show AOp _ _ ⟨_, .store _ _ _, _, _, _, _⟩ _ _ _; fail)
      | (show AOp _ _ ⟨_, .call ⟨.builtin .append, _, _⟩, _, _, _, _⟩ _ _ _; first | refine Bx (sz := 1) (xs := []) hG Y Y Y Y Y Y Y ⟨_, Y⟩ Y Y Y Y Y Y Y (by first | omega | (simp; omega)) (fun k => ?_) | refine B0 0 hG Y Y Y Y Y Y Y ⟨_, Y⟩ Y Y Y Y Y (by first | omega | (simp only [List.length_append, List.length_cons, List.length_nil]; omega)) (fun k => ?_) | fail)
      | refine r_q hG Y Y Y ?_))
    | (show AL _ _ _ _ _ _ _ _; first | refine Bj Y Y Y ?_ | (refine At ?_; first | show AW _ _ _ _ _ _ | show ∃ x', _ < _ ∧ _)) | (show AW _ _ (.seq _ _) _ _ _; refine Ak ?_; intro Q1) | (show AW _ _ (.region _ _ false) _ _ _; refine Ae ?_; intro O1) | (show AW _ _ (.cond _ _ _) _ _ _; first | refine Aq Y ?_ | refine Ap Y ?_ | refine Bf Y (fun h => ?_) (fun h => ?_)) | (show AW _ _ (.skip) _ _ _; refine Aj ?_; first | show AW _ _ _ _ _ _ | show ∃ x', _ < _ ∧ _) | (show AW _ _ (.block _ _) _ _ _; refine Ag ?_; intro Q1) | (show AW _ _ (.exit _) _ _ _; refine Ao ?_; first | show AW _ _ _ _ _ _ | show ∃ x', _ < _ ∧ _) | (show AW _ _ (.goto _) _ _ _; refine Cc ?_; try dsimp only [Au, Aa, A4, Af]) | (show AW _ _ (.ret) _ _ _; refine Ax ?_; try dsimp only [Au, Aa, A4, Af]) | fail)
        refine Ah rfl ?_
        refine Bk 0 (u := oT (l.getD q default)) hG rfl rfl rfl hsc rfl rfl rfl ?_
        repeat' (first
    | ((show AL _ _ _ _ _ _ _ _; refine Ah Y ?_); (first
      | (show AOp _ _ ⟨_, .move _, _, _, _, _⟩ _ _ _; refine Ar hG Y Y ?_)
      | (show AOp _ _ ⟨_, .assign _, _, _, _, _⟩ _ _ _; refine A7 hG Y Y ?_)
      | (show AOp _ _ ⟨_, .call ⟨.builtin .len, _, _⟩, _, _, _, _⟩ _ _ _; first | refine Br hG Y Y Y Y ?_ | refine B6 hG Y Y Y Y Y ?_)
      | (show AOp _ _ ⟨_, .lookup _ _ _ _, _, _, _, _⟩ _ _ _; first | refine r_lookF hG Y Y Y Y Y Y Y Y Y ?_ | refine Cg hG Y Y Y Y Y Y Y Y Y ?_ | refine Bt (n := 0) hG Y Y Y Y Y Y Y Y Y Y ?_ | refine Bt (n := 1) hG Y Y Y Y Y Y Y Y Y Y ?_)
      | (show AOp _ _ ⟨_, .mapUpdate _ _ _ _, _, _, _, _⟩ _ _ _; first | refine B4 0 hG Y Y Y Y Y Y Y Y ?_ | refine B4 1 hG Y Y Y Y Y Y Y Y ?_)
      | (show AOp _ _ ⟨_, .binOp .add _ _ _ _, _, _, _, _⟩ _ _ _; first | refine Ad hG Y Y Y Y Y (by omega) ?_ | refine Ad (m := 1) hG Y Y Y Y Y (by omega) ?_ | refine Ab hG Y Y Y Y Y (by omega) ?_)
      | (show AOp _ _ ⟨_, .binOp _ _ _ _ _, _, _, _, _⟩ _ _ _; first | refine Aw hG Y Y Y Y Y (by omega) ?_ | refine Av hG Y Y Y Y Y (by omega) ?_ | (refine Am hG Y Y Y Y Y (fun h => ?_) (fun h => ?_)))
      | (show AOp _ _ ⟨_, .load _ _, _, _, _, _⟩ _ _ _; first | refine Al (α := Nat) 0 hG Y Y Y Y (by omega) Y ?_ | refine Al (α := Nat) 1 hG Y Y Y Y (by omega) Y ?_ | refine A0 hG Y Y Y ?_ | refine Bg 0 hG Y Y Y Y ?_ | refine Bg 1 hG Y Y Y Y ?_)
      | (show AOp _ _ ⟨_, .indexAddr _ _ _, _, _, _, _⟩ _ _ _; first | refine A3 hG Y Y Y Y Y Y Y (by omega) ?_ | refine A1 hG Y Y Y Y Y Y Y (by omega) ?_ | refine Az hG Y Y Y Y Y Y Y (by omega) ?_ | refine Bb hG Y Y ?_)
      | (show AOp _ _ ⟨_, .pick _ _ _, _, _, _, _⟩ _ _ _; refine Ba hG Y Y Y ?_)
      | (show AOp _ _ ⟨_, .buildSlice _ _ _, _, _, _, _⟩ _ _ _; first | refine r_mk (sz := 1) hG Y Y Y Y Y Y Y ?_)
      | (show AOp _ _ ⟨_, .alloc _, _, _, _, _⟩ _ _ _; refine B8 hG Y Y (fun i => ?_))
      | (show AOp _ _ ⟨_, .store _ _ _, _, _, _, _⟩ _ _ _; first | refine A5 (α := Nat) 0 hG Y Y Y Ac A6 Y Y (by first | omega | (simp only [Array.size_setIfInBounds]; omega)) ?_ | refine A5 (α := Nat) 1 hG Y Y Y Ac A6 Y Y (by first | omega | (simp only [Array.size_setIfInBounds]; omega)) ?_ | refine Bk 0 hG Y Y Y Y Y Y Y ?_ | refine Bk 1 hG Y Y Y Y Y Y Y ?_)
      | (show AOp _ _ ⟨_, .call ⟨.builtin .append, _, _⟩, _, _, _, _⟩ _ _ _; first | refine Bx (sz := 1) (xs := []) hG Y Y Y Y Y Y Y ⟨_, Y⟩ Y Y Y Y Y Y Y (by first | omega | (simp; omega)) (fun k => ?_) | refine B0 0 hG Y Y Y Y Y Y Y ⟨_, Y⟩ Y Y Y Y Y (by first | omega | (simp only [List.length_append, List.length_cons, List.length_nil]; omega)) (fun k => ?_) | fail)
      | (show AOp _ _ ⟨_, .call ⟨.value _, _, _⟩, _, _, _, _⟩ _ _ _; first | refine Bl Y Y Y Y Y (by first | (apply hM <;> (first | assumption | omega | exact A2 _ _ | exact Bc _ | exact A9 _ _ | exact Bi _ | rfl | (simp; omega))) | fail) ?_ | fail)
      | refine r_q hG Y Y Y ?_))
    | (show AL _ _ _ _ _ _ _ _; first | refine Bj Y Y Y ?_ | (refine At ?_; first | show AW _ _ _ _ _ _ | show ∃ x', _ < _ ∧ _)) | (show AW _ _ (.seq _ _) _ _ _; refine Ak ?_; intro Q1) | (show AW _ _ (.region _ _ false) _ _ _; refine Ae ?_; intro O1) | (show AW _ _ (.cond _ _ _) _ _ _; first | refine Aq Y ?_ | refine Ap Y ?_ | refine Bf Y (fun h => ?_) (fun h => ?_)) | (show AW _ _ (.skip) _ _ _; refine Aj ?_; first | show AW _ _ _ _ _ _ | show ∃ x', _ < _ ∧ _) | (show AW _ _ (.block _ _) _ _ _; refine Ag ?_; intro Q1) | (show AW _ _ (.exit _) _ _ _; refine Ao ?_; first | show AW _ _ _ _ _ _ | show ∃ x', _ < _ ∧ _) | (show AW _ _ (.goto _) _ _ _; refine Cc ?_; try dsimp only [Au, Aa, A4, Af]) | (show AW _ _ (.ret) _ _ _; refine Ax ?_; try dsimp only [Au, Aa, A4, Af]) | fail)
        exact ⟨⟨q + 1, by omega⟩, by dsimp only; omega, (by repeat (first | exact .nil _ | refine .cons rfl ?_)), by
          dsimp only; rw [hks]
          exact keep_step (L' := [(mi, .map ((m).map kvT))]) (R' := []) (List.sublist_cons_self _ _) (List.nil_sublist _)⟩
      | true =>
        by_cases hk : klook m (l.getD q default).id = 1
        · rw [if_neg (by rintro ⟨_, h⟩; exact h hk)] at hks
          repeat' (first
    | ((show AL _ _ _ _ _ _ _ _; refine Ah Y ?_); (first
      | (show AOp _ _ ⟨_, .move _, _, _, _, _⟩ _ _ _; refine Ar hG Y Y ?_)
      | (show AOp _ _ ⟨_, .assign _, _, _, _, _⟩ _ _ _; refine A7 hG Y Y ?_)
      | (show AOp _ _ ⟨_, .call ⟨.builtin .len, _, _⟩, _, _, _, _⟩ _ _ _; first | refine Br hG Y Y Y Y ?_ | refine B6 hG Y Y Y Y Y ?_)
      | (show AOp _ _ ⟨_, .lookup _ _ _ _, _, _, _, _⟩ _ _ _; first | refine r_lookF hG Y Y Y Y Y Y Y Y Y ?_ | refine Cg hG Y Y Y Y Y Y Y Y Y ?_ | refine Bt (n := 0) hG Y Y Y Y Y Y Y Y Y Y ?_ | refine Bt (n := 1) hG Y Y Y Y Y Y Y Y Y Y ?_)
      | (show AOp _ _ ⟨_, .mapUpdate _ _ _ _, _, _, _, _⟩ _ _ _; first | refine B4 0 hG Y Y Y Y Y Y Y Y ?_ | refine B4 1 hG Y Y Y Y Y Y Y Y ?_)
      | (show AOp _ _ ⟨_, .binOp .add _ _ _ _, _, _, _, _⟩ _ _ _; first | refine Ad hG Y Y Y Y Y (by omega) ?_ | refine Ad (m := 1) hG Y Y Y Y Y (by omega) ?_ | refine Ab hG Y Y Y Y Y (by omega) ?_)
      | (show AOp _ _ ⟨_, .binOp _ _ _ _ _, _, _, _, _⟩ _ _ _; first | refine Aw hG Y Y Y Y Y (by omega) ?_ | refine Av hG Y Y Y Y Y (by omega) ?_ | (refine Am hG Y Y Y Y Y (fun h => ?_) (fun h => ?_)))
      | (show AOp _ _ ⟨_, .load _ _, _, _, _, _⟩ _ _ _; first | refine Al (α := Nat) 0 hG Y Y Y Y (by omega) Y ?_ | refine Al (α := Nat) 1 hG Y Y Y Y (by omega) Y ?_ | refine A0 hG Y Y Y ?_ | refine Bg 0 hG Y Y Y Y ?_ | refine Bg 1 hG Y Y Y Y ?_)
      | (show AOp _ _ ⟨_, .indexAddr _ _ _, _, _, _, _⟩ _ _ _; first | refine A3 hG Y Y Y Y Y Y Y (by omega) ?_ | refine A1 hG Y Y Y Y Y Y Y (by omega) ?_ | refine Az hG Y Y Y Y Y Y Y (by omega) ?_ | refine Bb hG Y Y ?_)
      | (show AOp _ _ ⟨_, .pick _ _ _, _, _, _, _⟩ _ _ _; refine Ba hG Y Y Y ?_)
      | (show AOp _ _ ⟨_, .buildSlice _ _ _, _, _, _, _⟩ _ _ _; first | refine r_mk (sz := 1) hG Y Y Y Y Y Y Y ?_)
      | (show AOp _ _ ⟨_, .alloc _, _, _, _, _⟩ _ _ _; refine B8 hG Y Y (fun i => ?_))
      | (show AOp _ _ ⟨_, .store _ _ _, _, _, _, _⟩ _ _ _; fail)
      | (show AOp _ _ ⟨_, .call ⟨.builtin .append, _, _⟩, _, _, _, _⟩ _ _ _; first | refine Bx (sz := 1) (xs := []) hG Y Y Y Y Y Y Y ⟨_, Y⟩ Y Y Y Y Y Y Y (by first | omega | (simp; omega)) (fun k => ?_) | refine B0 0 hG Y Y Y Y Y Y Y ⟨_, Y⟩ Y Y Y Y Y (by first | omega | (simp only [List.length_append, List.length_cons, List.length_nil]; omega)) (fun k => ?_) | fail)
      | refine r_q hG Y Y Y ?_))
    | (show AL _ _ _ _ _ _ _ _; first | refine Bj Y Y Y ?_ | (refine At ?_; first | show AW _ _ _ _ _ _ | show ∃ x', _ < _ ∧ _)) | (show AW _ _ (.seq _ _) _ _ _; refine Ak ?_; intro Q1) | (show AW _ _ (.region _ _ false) _ _ _; refine Ae ?_; intro O1) | (show AW _ _ (.cond _ _ _) _ _ _; first | refine Aq Y ?_ | refine Ap Y ?_ | refine Bf Y (fun h => ?_) (fun h => ?_)) | (show AW _ _ (.skip) _ _ _; refine Aj ?_; first | show AW _ _ _ _ _ _ | show ∃ x', _ < _ ∧ _) | (show AW _ _ (.block _ _) _ _ _; refine Ag ?_; intro Q1) | (show AW _ _ (.exit _) _ _ _; refine Ao ?_; first | show AW _ _ _ _ _ _ | show ∃ x', _ < _ ∧ _) | (show AW _ _ (.goto _) _ _ _; refine Cc ?_; try dsimp only [Au, Aa, A4, Af]) | (show AW _ _ (.ret) _ _ _; refine Ax ?_; try dsimp only [Au, Aa, A4, Af]) | fail)
          refine Ah rfl ?_
          refine Bk 0 (u := oT (l.getD q default)) hG rfl rfl rfl hsc rfl rfl rfl ?_
          repeat' (first
    | ((show AL _ _ _ _ _ _ _ _; refine Ah Y ?_); (first
      | (show AOp _ _ ⟨_, .move _, _, _, _, _⟩ _ _ _; refine Ar hG Y Y ?_)
      | (show AOp _ _ ⟨_, .assign _, _, _, _, _⟩ _ _ _; refine A7 hG Y Y ?_)
      | (show AOp _ _ ⟨_, .call ⟨.builtin .len, _, _⟩, _, _, _, _⟩ _ _ _; first | refine Br hG Y Y Y Y ?_ | refine B6 hG Y Y Y Y Y ?_)
      | (show AOp _ _ ⟨_, .lookup _ _ _ _, _, _, _, _⟩ _ _ _; first | refine r_lookF hG Y Y Y Y Y Y Y Y Y ?_ | refine Cg hG Y Y Y Y Y Y Y Y Y ?_ | refine Bt (n := 0) hG Y Y Y Y Y Y Y Y Y Y ?_ | refine Bt (n := 1) hG Y Y Y Y Y Y Y Y Y Y ?_)
      | (show AOp _ _ ⟨_, .mapUpdate _ _ _ _, _, _, _, _⟩ _ _ _; first | refine B4 0 hG Y Y Y Y Y Y Y Y ?_ | refine B4 1 hG Y Y Y Y Y Y Y Y ?_)
      | (show AOp _ _ ⟨_, .binOp .add _ _ _ _, _, _, _, _⟩ _ _ _; first | refine Ad hG Y Y Y Y Y (by omega) ?_ | refine Ad (m := 1) hG Y Y Y Y Y (by omega) ?_ | refine Ab hG Y Y Y Y Y (by omega) ?_)
      | (show AOp _ _ ⟨_, .binOp _ _ _ _ _, _, _, _, _⟩ _ _ _; first | refine Aw hG Y Y Y Y Y (by omega) ?_ | refine Av hG Y Y Y Y Y (by omega) ?_ | (refine Am hG Y Y Y Y Y (fun h => ?_) (fun h => ?_)))
      | (show AOp _ _ ⟨_, .load _ _, _, _, _, _⟩ _ _ _; first | refine Al (α := Nat) 0 hG Y Y Y Y (by omega) Y ?_ | refine Al (α := Nat) 1 hG Y Y Y Y (by omega) Y ?_ | refine A0 hG Y Y Y ?_ | refine Bg 0 hG Y Y Y Y ?_ | refine Bg 1 hG Y Y Y Y ?_)
      | (show AOp _ _ ⟨_, .indexAddr _ _ _, _, _, _, _⟩ _ _ _; first | refine A3 hG Y Y Y Y Y Y Y (by omega) ?_ | refine A1 hG Y Y Y Y Y Y Y (by omega) ?_ | refine Az hG Y Y Y Y Y Y Y (by omega) ?_ | refine Bb hG Y Y ?_)
      | (show AOp _ _ ⟨_, .pick _ _ _, _, _, _, _⟩ _ _ _; refine Ba hG Y Y Y ?_)
      | (show AOp _ _ ⟨_, .buildSlice _ _ _, _, _, _, _⟩ _ _ _; first | refine r_mk (sz := 1) hG Y Y Y Y Y Y Y ?_)
      | (show AOp _ _ ⟨_, .alloc _, _, _, _, _⟩ _ _ _; refine B8 hG Y Y (fun i => ?_))
      | (show AOp _ _ ⟨_, .store _ _ _, _, _, _, _⟩ _ _ _; first | refine A5 (α := Nat) 0 hG Y Y Y Ac A6 Y Y (by first | omega | (simp only [Array.size_setIfInBounds]; omega)) ?_ | refine A5 (α := Nat) 1 hG Y Y Y Ac A6 Y Y (by first | omega | (simp only [Array.size_setIfInBounds]; omega)) ?_ | refine Bk 0 hG Y Y Y Y Y Y Y ?_ | refine Bk 1 hG Y Y Y Y Y Y Y ?_)
      | (show AOp _ _ ⟨_, .call ⟨.builtin .append, _, _⟩, _, _, _, _⟩ _ _ _; first | refine Bx (sz := 1) (xs := []) hG Y Y Y Y Y Y Y ⟨_, Y⟩ Y Y Y Y Y Y Y (by first | omega | (simp; omega)) (fun k => ?_) | refine B0 0 hG Y Y Y Y Y Y Y ⟨_, Y⟩ Y Y Y Y Y (by first | omega | (simp only [List.length_append, List.length_cons, List.length_nil]; omega)) (fun k => ?_) | fail)
      | (show AOp _ _ ⟨_, .call ⟨.value _, _, _⟩, _, _, _, _⟩ _ _ _; first | refine Bl Y Y Y Y Y (by first | (apply hM <;> (first | assumption | omega | exact A2 _ _ | exact Bc _ | exact A9 _ _ | exact Bi _ | rfl | (simp; omega))) | fail) ?_ | fail)
      | refine r_q hG Y Y Y ?_))
    | (show AL _ _ _ _ _ _ _ _; first | refine Bj Y Y Y ?_ | (refine At ?_; first | show AW _ _ _ _ _ _ | show ∃ x', _ < _ ∧ _)) | (show AW _ _ (.seq _ _) _ _ _; refine Ak ?_; intro Q1) | (show AW _ _ (.region _ _ false) _ _ _; refine Ae ?_; intro O1) | (show AW _ _ (.cond _ _ _) _ _ _; first | refine Aq Y ?_ | refine Ap Y ?_ | refine Bf Y (fun h => ?_) (fun h => ?_)) | (show AW _ _ (.skip) _ _ _; refine Aj ?_; first | show AW _ _ _ _ _ _ | show ∃ x', _ < _ ∧ _) | (show AW _ _ (.block _ _) _ _ _; refine Ag ?_; intro Q1) | (show AW _ _ (.exit _) _ _ _; refine Ao ?_; first | show AW _ _ _ _ _ _ | show ∃ x', _ < _ ∧ _) | (show AW _ _ (.goto _) _ _ _; refine Cc ?_; try dsimp only [Au, Aa, A4, Af]) | (show AW _ _ (.ret) _ _ _; refine Ax ?_; try dsimp only [Au, Aa, A4, Af]) | fail)
          exact ⟨⟨q + 1, by omega⟩, by dsimp only; omega, (by repeat (first | exact .nil _ | refine .cons rfl ?_)), by
            dsimp only; rw [hks]
            exact keep_step (L' := [(mi, .map ((m).map kvT))]) (R' := []) (List.sublist_cons_self _ _) (List.nil_sublist _)⟩
        · rw [if_pos ⟨rfl, hk⟩] at hks
          repeat' (first
    | ((show AL _ _ _ _ _ _ _ _; refine Ah Y ?_); (first
      | (show AOp _ _ ⟨_, .move _, _, _, _, _⟩ _ _ _; refine Ar hG Y Y ?_)
      | (show AOp _ _ ⟨_, .assign _, _, _, _, _⟩ _ _ _; refine A7 hG Y Y ?_)
      | (show AOp _ _ ⟨_, .call ⟨.builtin .len, _, _⟩, _, _, _, _⟩ _ _ _; first | refine Br hG Y Y Y Y ?_ | refine B6 hG Y Y Y Y Y ?_)
      | (show AOp _ _ ⟨_, .lookup _ _ _ _, _, _, _, _⟩ _ _ _; first | refine r_lookF hG Y Y Y Y Y Y Y Y Y ?_ | refine Cg hG Y Y Y Y Y Y Y Y Y ?_ | refine Bt (n := 0) hG Y Y Y Y Y Y Y Y Y Y ?_ | refine Bt (n := 1) hG Y Y Y Y Y Y Y Y Y Y ?_)
      | (show AOp _ _ ⟨_, .mapUpdate _ _ _ _, _, _, _, _⟩ _ _ _; first | refine B4 0 hG Y Y Y Y Y Y Y Y ?_ | refine B4 1 hG Y Y Y Y Y Y Y Y ?_)
      | (show AOp _ _ ⟨_, .binOp .add _ _ _ _, _, _, _, _⟩ _ _ _; first | refine Ad hG Y Y Y Y Y (by omega) ?_ | refine Ad (m := 1) hG Y Y Y Y Y (by omega) ?_ | refine Ab hG Y Y Y Y Y (by omega) ?_)
      | (show AOp _ _ ⟨_, .binOp _ _ _ _ _, _, _, _, _⟩ _ _ _; first | refine Aw hG Y Y Y Y Y (by omega) ?_ | refine Av hG Y Y Y Y Y (by omega) ?_ | (refine Am hG Y Y Y Y Y (fun h => ?_) (fun h => ?_)))
      | (show AOp _ _ ⟨_, .load _ _, _, _, _, _⟩ _ _ _; first | refine Al (α := Nat) 0 hG Y Y Y Y (by omega) Y ?_ | refine Al (α := Nat) 1 hG Y Y Y Y (by omega) Y ?_ | refine A0 hG Y Y Y ?_ | refine Bg 0 hG Y Y Y Y ?_ | refine Bg 1 hG Y Y Y Y ?_)
      | (show AOp _ _ ⟨_, .indexAddr _ _ _, _, _, _, _⟩ _ _ _; first | refine A3 hG Y Y Y Y Y Y Y (by omega) ?_ | refine A1 hG Y Y Y Y Y Y Y (by omega) ?_ | refine Az hG Y Y Y Y Y Y Y (by omega) ?_ | refine Bb hG Y Y ?_)
      | (show AOp _ _ ⟨_, .pick _ _ _, _, _, _, _⟩ _ _ _; refine Ba hG Y Y Y ?_)
      | (show AOp _ _ ⟨_, .buildSlice _ _ _, _, _, _, _⟩ _ _ _; first | refine r_mk (sz := 1) hG Y Y Y Y Y Y Y ?_)
      | (show AOp _ _ ⟨_, .alloc _, _, _, _, _⟩ _ _ _; refine B8 hG Y Y (fun i => ?_))
      | (show AOp _ _ ⟨_, .store _ _ _, _, _, _, _⟩ _ _ _; fail)
      | (show AOp _ _ ⟨_, .call ⟨.builtin .append, _, _⟩, _, _, _, _⟩ _ _ _; first | refine Bx (sz := 1) (xs := []) hG Y Y Y Y Y Y Y ⟨_, Y⟩ Y Y Y Y Y Y Y (by first | omega | (simp; omega)) (fun k => ?_) | refine B0 0 hG Y Y Y Y Y Y Y ⟨_, Y⟩ Y Y Y Y Y (by first | omega | (simp only [List.length_append, List.length_cons, List.length_nil]; omega)) (fun k => ?_) | fail)
      | refine r_q hG Y Y Y ?_))
    | (show AL _ _ _ _ _ _ _ _; first | refine Bj Y Y Y ?_ | (refine At ?_; first | show AW _ _ _ _ _ _ | show ∃ x', _ < _ ∧ _)) | (show AW _ _ (.seq _ _) _ _ _; refine Ak ?_; intro Q1) | (show AW _ _ (.region _ _ false) _ _ _; refine Ae ?_; intro O1) | (show AW _ _ (.cond _ _ _) _ _ _; first | refine Aq Y ?_ | refine Ap Y ?_ | refine Bf Y (fun h => ?_) (fun h => ?_)) | (show AW _ _ (.skip) _ _ _; refine Aj ?_; first | show AW _ _ _ _ _ _ | show ∃ x', _ < _ ∧ _) | (show AW _ _ (.block _ _) _ _ _; refine Ag ?_; intro Q1) | (show AW _ _ (.exit _) _ _ _; refine Ao ?_; first | show AW _ _ _ _ _ _ | show ∃ x', _ < _ ∧ _) | (show AW _ _ (.goto _) _ _ _; refine Cc ?_; try dsimp only [Au, Aa, A4, Af]) | (show AW _ _ (.ret) _ _ _; refine Ax ?_; try dsimp only [Au, Aa, A4, Af]) | fail)
          refine Ah rfl ?_
          refine Bk 0 (u := oT (l.getD q default)) hG rfl rfl rfl hsc rfl rfl rfl ?_
          repeat' (first
    | ((show AL _ _ _ _ _ _ _ _; refine Ah Y ?_); (first
      | (show AOp _ _ ⟨_, .move _, _, _, _, _⟩ _ _ _; refine Ar hG Y Y ?_)
      | (show AOp _ _ ⟨_, .assign _, _, _, _, _⟩ _ _ _; refine A7 hG Y Y ?_)
      | (show AOp _ _ ⟨_, .call ⟨.builtin .len, _, _⟩, _, _, _, _⟩ _ _ _; first | refine Br hG Y Y Y Y ?_ | refine B6 hG Y Y Y Y Y ?_)
      | (show AOp _ _ ⟨_, .lookup _ _ _ _, _, _, _, _⟩ _ _ _; first | refine r_lookF hG Y Y Y Y Y Y Y Y Y ?_ | refine Cg hG Y Y Y Y Y Y Y Y Y ?_ | refine Bt (n := 0) hG Y Y Y Y Y Y Y Y Y Y ?_ | refine Bt (n := 1) hG Y Y Y Y Y Y Y Y Y Y ?_)
      | (show AOp _ _ ⟨_, .mapUpdate _ _ _ _, _, _, _, _⟩ _ _ _; first | refine B4 0 hG Y Y Y Y Y Y Y Y ?_ | refine B4 1 hG Y Y Y Y Y Y Y Y ?_)
      | (show AOp _ _ ⟨_, .binOp .add _ _ _ _, _, _, _, _⟩ _ _ _; first | refine Ad hG Y Y Y Y Y (by omega) ?_ | refine Ad (m := 1) hG Y Y Y Y Y (by omega) ?_ | refine Ab hG Y Y Y Y Y (by omega) ?_)
      | (show AOp _ _ ⟨_, .binOp _ _ _ _ _, _, _, _, _⟩ _ _ _; first | refine Aw hG Y Y Y Y Y (by omega) ?_ | refine Av hG Y Y Y Y Y (by omega) ?_ | (refine Am hG Y Y Y Y Y (fun h => ?_) (fun h => ?_)))
      | (show AOp _ _ ⟨_, .load _ _, _, _, _, _⟩ _ _ _; first | refine Al (α := Nat) 0 hG Y Y Y Y (by omega) Y ?_ | refine Al (α := Nat) 1 hG Y Y Y Y (by omega) Y ?_ | refine A0 hG Y Y Y ?_ | refine Bg 0 hG Y Y Y Y ?_ | refine Bg 1 hG Y Y Y Y ?_)
      | (show AOp _ _ ⟨_, .indexAddr _ _ _, _, _, _, _⟩ _ _ _; first | refine A3 hG Y Y Y Y Y Y Y (by omega) ?_ | refine A1 hG Y Y Y Y Y Y Y (by omega) ?_ | refine Az hG Y Y Y Y Y Y Y (by omega) ?_ | refine Bb hG Y Y ?_)
      | (show AOp _ _ ⟨_, .pick _ _ _, _, _, _, _⟩ _ _ _; refine Ba hG Y Y Y ?_)
      | (show AOp _ _ ⟨_, .buildSlice _ _ _, _, _, _, _⟩ _ _ _; first | refine r_mk (sz := 1) hG Y Y Y Y Y Y Y ?_)
      | (show AOp _ _ ⟨_, .alloc _, _, _, _, _⟩ _ _ _; refine B8 hG Y Y (fun i => ?_))
      | (show AOp _ _ ⟨_, .store _ _ _, _, _, _, _⟩ _ _ _; first | refine A5 (α := Nat) 0 hG Y Y Y Ac A6 Y Y (by first | omega | (simp only [Array.size_setIfInBounds]; omega)) ?_ | refine A5 (α := Nat) 1 hG Y Y Y Ac A6 Y Y (by first | omega | (simp only [Array.size_setIfInBounds]; omega)) ?_ | refine Bk 0 hG Y Y Y Y Y Y Y ?_ | refine Bk 1 hG Y Y Y Y Y Y Y ?_)
      | (show AOp _ _ ⟨_, .call ⟨.builtin .append, _, _⟩, _, _, _, _⟩ _ _ _; first | refine Bx (sz := 1) (xs := []) hG Y Y Y Y Y Y Y ⟨_, Y⟩ Y Y Y Y Y Y Y (by first | omega | (simp; omega)) (fun k => ?_) | refine B0 0 hG Y Y Y Y Y Y Y ⟨_, Y⟩ Y Y Y Y Y (by first | omega | (simp only [List.length_append, List.length_cons, List.length_nil]; omega)) (fun k => ?_) | fail)
      | (show AOp _ _ ⟨_, .call ⟨.value _, _, _⟩, _, _, _, _⟩ _ _ _; first | refine Bl Y Y Y Y Y (by first | (apply hM <;> (first | assumption | omega | exact A2 _ _ | exact Bc _ | exact A9 _ _ | exact Bi _ | rfl | (simp; omega))) | fail) ?_ | fail)
      | refine r_q hG Y Y Y ?_))
    | (show AL _ _ _ _ _ _ _ _; first | refine Bj Y Y Y ?_ | (refine At ?_; first | show AW _ _ _ _ _ _ | show ∃ x', _ < _ ∧ _)) | (show AW _ _ (.seq _ _) _ _ _; refine Ak ?_; intro Q1) | (show AW _ _ (.region _ _ false) _ _ _; refine Ae ?_; intro O1) | (show AW _ _ (.cond _ _ _) _ _ _; first | refine Aq Y ?_ | refine Ap Y ?_ | refine Bf Y (fun h => ?_) (fun h => ?_)) | (show AW _ _ (.skip) _ _ _; refine Aj ?_; first | show AW _ _ _ _ _ _ | show ∃ x', _ < _ ∧ _) | (show AW _ _ (.block _ _) _ _ _; refine Ag ?_; intro Q1) | (show AW _ _ (.exit _) _ _ _; refine Ao ?_; first | show AW _ _ _ _ _ _ | show ∃ x', _ < _ ∧ _) | (show AW _ _ (.goto _) _ _ _; refine Cc ?_; try dsimp only [Au, Aa, A4, Af]) | (show AW _ _ (.ret) _ _ _; refine Ax ?_; try dsimp only [Au, Aa, A4, Af]) | fail)
          exact ⟨⟨q + 1, by omega⟩, by dsimp only; omega, (by repeat (first | exact .nil _ | refine .cons rfl ?_)), by
            dsimp only; rw [hks]
            exact keep_step (L' := [(mi, .map ((kset m (l.getD q default).id (l.getD q default).kind).map kvT))]) (R' := []) (List.sublist_cons_self _ _) (List.nil_sublist _)⟩
    · have hqe : l.take q = l := List.take_of_length_le (by omega)
      rw [hqe, hM]
      repeat' (first
    | ((show AL _ _ _ _ _ _ _ _; refine Ah Y ?_); (first
      | (show AOp _ _ ⟨_, .move _, _, _, _, _⟩ _ _ _; refine Ar hG Y Y ?_)
      | (show AOp _ _ ⟨_, .assign _, _, _, _, _⟩ _ _ _; refine A7 hG Y Y ?_)
      | (show AOp _ _ ⟨_, .call ⟨.builtin .len, _, _⟩, _, _, _, _⟩ _ _ _; first | refine Br hG Y Y Y Y ?_ | refine B6 hG Y Y Y Y Y ?_)
      | (show AOp _ _ ⟨_, .lookup _ _ _ _, _, _, _, _⟩ _ _ _; first | refine r_lookF hG Y Y Y Y Y Y Y Y Y ?_ | refine Cg hG Y Y Y Y Y Y Y Y Y ?_ | refine Bt (n := 0) hG Y Y Y Y Y Y Y Y Y Y ?_ | refine Bt (n := 1) hG Y Y Y Y Y Y Y Y Y Y ?_)
      | (show AOp _ _ ⟨_, .mapUpdate _ _ _ _, _, _, _, _⟩ _ _ _; first | refine B4 0 hG Y Y Y Y Y Y Y Y ?_ | refine B4 1 hG Y Y Y Y Y Y Y Y ?_)
      | (show AOp _ _ ⟨_, .binOp .add _ _ _ _, _, _, _, _⟩ _ _ _; first | refine Ad hG Y Y Y Y Y (by omega) ?_ | refine Ad (m := 1) hG Y Y Y Y Y (by omega) ?_ | refine Ab hG Y Y Y Y Y (by omega) ?_)
      | (show AOp _ _ ⟨_, .binOp _ _ _ _ _, _, _, _, _⟩ _ _ _; first | refine Aw hG Y Y Y Y Y (by omega) ?_ | refine Av hG Y Y Y Y Y (by omega) ?_ | (refine Am hG Y Y Y Y Y (fun h => ?_) (fun h => ?_)))
      | (show AOp _ _ ⟨_, .load _ _, _, _, _, _⟩ _ _ _; first | refine Al (α := Nat) 0 hG Y Y Y Y (by omega) Y ?_ | refine Al (α := Nat) 1 hG Y Y Y Y (by omega) Y ?_ | refine A0 hG Y Y Y ?_ | refine Bg 0 hG Y Y Y Y ?_ | refine Bg 1 hG Y Y Y Y ?_)
      | (show AOp _ _ ⟨_, .indexAddr _ _ _, _, _, _, _⟩ _ _ _; first | refine A3 hG Y Y Y Y Y Y Y (by omega) ?_ | refine A1 hG Y Y Y Y Y Y Y (by omega) ?_ | refine Az hG Y Y Y Y Y Y Y (by omega) ?_ | refine Bb hG Y Y ?_)
      | (show AOp _ _ ⟨_, .pick _ _ _, _, _, _, _⟩ _ _ _; refine Ba hG Y Y Y ?_)
      | (show AOp _ _ ⟨_, .buildSlice _ _ _, _, _, _, _⟩ _ _ _; first | refine r_mk (sz := 1) hG Y Y Y Y Y Y Y ?_)
      | (show AOp _ _ ⟨_, .alloc _, _, _, _, _⟩ _ _ _; refine B8 hG Y Y (fun i => ?_))
      | (show AOp _ _ ⟨_, .store _ _ _, _, _, _, _⟩ _ _ _; first | refine A5 (α := Nat) 0 hG Y Y Y Ac A6 Y Y (by first | omega | (simp only [Array.size_setIfInBounds]; omega)) ?_ | refine A5 (α := Nat) 1 hG Y Y Y Ac A6 Y Y (by first | omega | (simp only [Array.size_setIfInBounds]; omega)) ?_ | refine Bk 0 hG Y Y Y Y Y Y Y ?_ | refine Bk 1 hG Y Y Y Y Y Y Y ?_)
      | (show AOp _ _ ⟨_, .call ⟨.builtin .append, _, _⟩, _, _, _, _⟩ _ _ _; first | refine Bx (sz := 1) (xs := []) hG Y Y Y Y Y Y Y ⟨_, Y⟩ Y Y Y Y Y Y Y (by first | omega | (simp; omega)) (fun k => ?_) | refine B0 0 hG Y Y Y Y Y Y Y ⟨_, Y⟩ Y Y Y Y Y (by first | omega | (simp only [List.length_append, List.length_cons, List.length_nil]; omega)) (fun k => ?_) | fail)
      | refine r_q hG Y Y Y ?_))
    | (show AL _ _ _ _ _ _ _ _; first | refine Bj Y Y Y ?_ | (refine At ?_; first | show AW _ _ _ _ _ _ | show ∃ x', _ < _ ∧ _)) | (show AW _ _ (.seq _ _) _ _ _; refine Ak ?_; intro Q1) | (show AW _ _ (.region _ _ false) _ _ _; (fail_if_success show AW _ _ (.region 8 _ _) _ _ _); refine Ae ?_; intro O1) | (show AW _ _ (.cond _ _ _) _ _ _; first | refine Aq Y ?_ | refine Ap Y ?_ | refine Bf Y (fun h => ?_) (fun h => ?_)) | (show AW _ _ (.skip) _ _ _; refine Aj ?_; first | show AW _ _ _ _ _ _ | show ∃ x', _ < _ ∧ _) | (show AW _ _ (.block _ _) _ _ _; refine Ag ?_; intro Q1) | (show AW _ _ (.exit _) _ _ _; refine Ao ?_; first | show AW _ _ _ _ _ _ | show ∃ x', _ < _ ∧ _) | (show AW _ _ (.goto _) _ _ _; refine Cc ?_; try dsimp only [Au, Aa, A4, Af]) | (show AW _ _ (.ret) _ _ _; refine Ax ?_; try dsimp only [Au, Aa, A4, Af]) | fail)
      refine aw_freezeM 0 3 rfl rfl ?_
      repeat' (first
    | ((show AL _ _ _ _ _ _ _ _; refine Ah Y ?_); (first
      | (show AOp _ _ ⟨_, .move _, _, _, _, _⟩ _ _ _; refine Ar hG Y Y ?_)
      | (show AOp _ _ ⟨_, .assign _, _, _, _, _⟩ _ _ _; refine A7 hG Y Y ?_)
      | (show AOp _ _ ⟨_, .call ⟨.builtin .len, _, _⟩, _, _, _, _⟩ _ _ _; first | refine Br hG Y Y Y Y ?_ | refine B6 hG Y Y Y Y Y ?_)
      | (show AOp _ _ ⟨_, .lookup _ _ _ _, _, _, _, _⟩ _ _ _; first | refine r_lookF hG Y Y Y Y Y Y Y Y Y ?_ | refine Cg hG Y Y Y Y Y Y Y Y Y ?_ | refine Bt (n := 0) hG Y Y Y Y Y Y Y Y Y Y ?_ | refine Bt (n := 1) hG Y Y Y Y Y Y Y Y Y Y ?_)
      | (show AOp _ _ ⟨_, .mapUpdate _ _ _ _, _, _, _, _⟩ _ _ _; first | refine B4 0 hG Y Y Y Y Y Y Y Y ?_ | refine B4 1 hG Y Y Y Y Y Y Y Y ?_)
      | (show AOp _ _ ⟨_, .binOp .add _ _ _ _, _, _, _, _⟩ _ _ _; first | refine Ad hG Y Y Y Y Y (by omega) ?_ | refine Ad (m := 1) hG Y Y Y Y Y (by omega) ?_ | refine Ab hG Y Y Y Y Y (by omega) ?_)
      | (show AOp _ _ ⟨_, .binOp _ _ _ _ _, _, _, _, _⟩ _ _ _; first | refine Aw hG Y Y Y Y Y (by omega) ?_ | refine Av hG Y Y Y Y Y (by omega) ?_ | (refine Am hG Y Y Y Y Y (fun h => ?_) (fun h => ?_)))
      | (show AOp _ _ ⟨_, .load _ _, _, _, _, _⟩ _ _ _; first | refine Al (α := Nat) 0 hG Y Y Y Y (by omega) Y ?_ | refine Al (α := Nat) 1 hG Y Y Y Y (by omega) Y ?_ | refine A0 hG Y Y Y ?_ | refine Bg 0 hG Y Y Y Y ?_ | refine Bg 1 hG Y Y Y Y ?_)
      | (show AOp _ _ ⟨_, .indexAddr _ _ _, _, _, _, _⟩ _ _ _; first | refine A3 hG Y Y Y Y Y Y Y (by omega) ?_ | refine A1 hG Y Y Y Y Y Y Y (by omega) ?_ | refine Az hG Y Y Y Y Y Y Y (by omega) ?_ | refine Bb hG Y Y ?_)
      | (show AOp _ _ ⟨_, .pick _ _ _, _, _, _, _⟩ _ _ _; refine Ba hG Y Y Y ?_)
      | (show AOp _ _ ⟨_, .buildSlice _ _ _, _, _, _, _⟩ _ _ _; first | refine r_mk (sz := 1) hG Y Y Y Y Y Y Y ?_)
      | (show AOp _ _ ⟨_, .alloc _, _, _, _, _⟩ _ _ _; refine B8 hG Y Y (fun i => ?_))
      | (show AOp _ _ ⟨_, .store _ _ _, _, _, _, _⟩ _ _ _; first | refine A5 (α := Nat) 0 hG Y Y Y Ac A6 Y Y (by first | omega | (simp only [Array.size_setIfInBounds]; omega)) ?_ | refine A5 (α := Nat) 1 hG Y Y Y Ac A6 Y Y (by first | omega | (simp only [Array.size_setIfInBounds]; omega)) ?_ | refine Bk 0 hG Y Y Y Y Y Y Y ?_ | refine Bk 1 hG Y Y Y Y Y Y Y ?_)
      | (show AOp _ _ ⟨_, .call ⟨.builtin .append, _, _⟩, _, _, _, _⟩ _ _ _; first | refine Bx (sz := 1) (xs := []) hG Y Y Y Y Y Y Y ⟨_, Y⟩ Y Y Y Y Y Y Y (by first | omega | (simp; omega)) (fun k => ?_) | refine B0 0 hG Y Y Y Y Y Y Y ⟨_, Y⟩ Y Y Y Y Y (by first | omega | (simp only [List.length_append, List.length_cons, List.length_nil]; omega)) (fun k => ?_) | fail)
      | refine r_q hG Y Y Y ?_))
    | (show AL _ _ _ _ _ _ _ _; first | refine Bj Y Y Y ?_ | (refine At ?_; first | show AW _ _ _ _ _ _ | show ∃ x', _ < _ ∧ _)) | (show AW _ _ (.seq _ _) _ _ _; refine Ak ?_; intro Q1) | (show AW _ _ (.region _ _ false) _ _ _; refine Ae ?_; intro O1) | (show AW _ _ (.cond _ _ _) _ _ _; first | refine Aq Y ?_ | refine Ap Y ?_ | refine Bf Y (fun h => ?_) (fun h => ?_)) | (show AW _ _ (.skip) _ _ _; refine Aj ?_; first | show AW _ _ _ _ _ _ | show ∃ x', _ < _ ∧ _) | (show AW _ _ (.block _ _) _ _ _; refine Ag ?_; intro Q1) | (show AW _ _ (.exit _) _ _ _; refine Ao ?_; first | show AW _ _ _ _ _ _ | show ∃ x', _ < _ ∧ _) | (show AW _ _ (.goto _) _ _ _; refine Cc ?_; try dsimp only [Au, Aa, A4, Af]) | (show AW _ _ (.ret) _ _ _; refine Ax ?_; try dsimp only [Au, Aa, A4, Af]) | fail)
      · rw [if_pos h] at hR
        refine aw_label ?_
        show AW _ _ _ _ _ _
        refine aw_tok0 6 1 rfl rfl rfl rfl (fun k => ?_)
        refine aw_forget ?_ (key ⟨8, [1], [], k, by omega, fun id hid => ?_, by simp, by simp, hR⟩)
        · exact .cons rfl (.cons rfl (.consW rfl (.own _ _ _) (.nil _)))
        · obtain rfl : id = 1 := by simpa using hid
          exact ⟨[], nm_one 6, rfl⟩
      · rw [if_neg (by rw [h]; exact Bool.false_ne_true)] at hR
        refine aw_label ?_
        show AW _ _ _ _ _ _
        refine aw_tok0 6 1 rfl rfl rfl rfl (fun k => ?_)
        refine aw_forget ?_ (key ⟨8, [], [], k, by omega, fun id hid => (by cases hid), by simp, by simp, hR⟩)
        exact .cons rfl (.cons rfl (.consW rfl (.nil 1) (.nil _)))
end Go.Proofs.Ytmckbfdklcmogaa
namespace Go.Proofs.Ytmckbfdklcmogaa
open Go.Ts
set_option linter.unusedSimpArgs false
set_option linter.unusedVariables false
set_option linter.unnecessarySimpa false
attribute [local irreducible] Go.Ts.AW Go.Ts.AOps Go.Ts.AL Go.Ts.AOp Go.Ts.ACalls Go.Ts.DL Go.Ts.DQ0 Go.Ts.EL
theorem nextL_len (m : List (Nat × Int)) (lv : List Nat) : (nextL m lv).length ≤ m.length := by
  unfold nextL
  rw [srtL_len]
  refine Nat.le_trans (List.length_filter_le _ _) ?_
  simp
theorem reachGo_len (m : List (Nat × Int)) : ∀ (f : Nat) (lv out : List Nat), (reachGo m f lv out).length ≤ out.length + lv.length + f * m.length
  | 0, lv, out => by simp [reachGo]
  | f + 1, lv, out => by
    rw [reachGo]; split
    · omega
    · have h1 := reachGo_len m f (nextL m lv) (out ++ lv)
      have h2 := nextL_len m lv
      rw [Nat.add_mul]
      simp only [List.length_append] at h1
      omega
theorem reachGo_mem (m : List (Nat × Int)) (id : Nat) : ∀ (f : Nat) (lv out : List Nat), id ∈ reachGo m f lv out → id ∈ out ∨ id ∈ lv ∨ id ∈ m.map (·.1)
  | 0, lv, out, h => .inl h
  | f + 1, lv, out, h => by
    rw [reachGo] at h; split at h
    · exact .inl h
    · rcases reachGo_mem m id f _ _ h with h1 | h1 | h1
      · rcases List.mem_append.1 h1 with h2 | h2
        · exact .inl h2
        · exact .inr (.inl h2)
      · unfold nextL at h1
        exact .inr (.inr (List.mem_filter.1 ((srtL_spec _).1.mem_iff.1 h1)).1)
      · exact .inr (.inr h1)
theorem reachL_len {l : List OB} (h : l.length ≤ 31) : (reachL l).length ≤ 255 := by
  have h1 := reachGo_len (kinds l) 8 (if khas (kinds l) 1 = true then [1] else []) []
  have h2 := kinds_len l
  have h3 : (if khas (kinds l) 1 = true then [1] else []).length ≤ 1 := by split <;> simp
  unfold reachL
  simp only [List.length_nil] at h1
  omega
theorem reachL_lt (l : List OB) : ∀ id ∈ reachL l, id < 18446744073709551616 := by
  intro id hid
  rcases reachGo_mem _ id _ _ _ hid with h | h | h
  · cases h
  · split at h
    · simp at h; omega
    · cases h
  · obtain ⟨p, hp, rfl⟩ := List.mem_map.1 h
    exact kinds_lt l p hp
def withinL (l : List OB) (v : Nat) : List Nat := srtL ((reachL l).filter fun id => decide (v ∈ pathL id))
def bS0 (off : Nat → Nat → Prop) : List Nat → Nat → St
  | [], _ => ⟨[], [], off, none⟩
  | x :: l, i => ⟨[(i, .cells (rowT mT (x :: l).toArray))], [], off, none⟩
structure WiX (r : List Nat) where
  i : Nat
  y : Nat
  hi : i ≤ r.length
theorem filter_take {r : List Nat} {q : Nat} {p : Nat → Bool} (h : q < r.length) : (r.take (q + 1)).filter p = (r.take q).filter p ++ (if p (r.getD q default) = true then [r.getD q default] else []) := by
  rw [List.take_add_one, List.filter_append]
  congr 1
  simp only [List.getElem?_eq_getElem h, Option.toList_some, List.getD, Option.getD_some]
  by_cases hb : p r[q] = true <;> simp [hb]
set_option maxHeartbeats 1000000 in
theorem walk_Within {l : List OB} {v : Nat} (hl : l.length ≤ 31) : Ts.Pure Try.prog 12 [.sl 13 .no (l.map oT), mT v] (.sl 1 .no ((withinL l v).map mT)) := by
  have h1 := walk_Reach (l := l) (by omega)
  have hrl := reachL_len hl
  have hrt := reachL_lt l
  have hR : withinL l v = srtL ((reachL l).filter fun id => decide (v ∈ pathL id)) := rfl
  rw [hR]
  clear hR
  generalize reachL l = r at *
  intro off
  refine Bq (N := 26) (rs := [.tmp 4]) hG Try.func12 rfl rfl rfl rfl rfl ?_
  repeat' (first
    | ((show AL _ _ _ _ _ _ _ _; refine Ah Y ?_); (first
      | (show AOp _ _ ⟨_, .move _, _, _, _, _⟩ _ _ _; refine Ar hG Y Y ?_)
      | (show AOp _ _ ⟨_, .assign _, _, _, _, _⟩ _ _ _; refine A7 hG Y Y ?_)
      | (show AOp _ _ ⟨_, .call ⟨.builtin .len, _, _⟩, _, _, _, _⟩ _ _ _; first | refine Br hG Y Y Y Y ?_ | refine B6 hG Y Y Y Y Y ?_)
      | (show AOp _ _ ⟨_, .binOp .add _ _ _ _, _, _, _, _⟩ _ _ _; first | refine Ad hG Y Y Y Y Y (by omega) ?_ | refine Ad (m := 1) hG Y Y Y Y Y (by omega) ?_ | refine Ab hG Y Y Y Y Y (by omega) ?_)
      | (show AOp _ _ ⟨_, .binOp _ _ _ _ _, _, _, _, _⟩ _ _ _; first | refine Aw hG Y Y Y Y Y (by omega) ?_ | refine Av hG Y Y Y Y Y (by omega) ?_ | (refine Am hG Y Y Y Y Y (fun h => ?_) (fun h => ?_)))
      | (show AOp _ _ ⟨_, .load _ _, _, _, _, _⟩ _ _ _; first | refine Al (α := UInt16) 0 hG Y Y Y Y (by omega) Y ?_ | refine Al (α := UInt16) 1 hG Y Y Y Y (by omega) Y ?_ | refine A0 hG Y Y Y ?_ | refine Bg 0 hG Y Y Y Y ?_)
      | (show AOp _ _ ⟨_, .indexAddr _ _ _, _, _, _, _⟩ _ _ _; first | refine A3 hG Y Y Y Y Y Y Y (by omega) ?_ | refine A1 hG Y Y Y Y Y Y Y (by omega) ?_ | refine Az hG Y Y Y Y Y Y Y (by omega) ?_ | refine Bb hG Y Y ?_)
      | (show AOp _ _ ⟨_, .buildSlice _ _ _, _, _, _, _⟩ _ _ _; first | refine r_mk (sz := 1) hG Y Y Y Y Y Y Y ?_)
      | (show AOp _ _ ⟨_, .call ⟨.builtin .append, _, _⟩, _, _, _, _⟩ _ _ _; first | refine Bx (sz := 1) (xs := []) hG Y Y Y Y Y Y Y ⟨_, Y⟩ Y Y Y Y Y Y Y (by first | omega | (simp; omega)) (fun k => ?_) | refine B0 0 hG Y Y Y Y Y Y Y ⟨_, Y⟩ Y Y Y Y Y (by first | omega | (simp only [List.length_append, List.length_cons, List.length_nil]; omega)) (fun k => ?_) | fail)
      | (show AOp _ _ ⟨_, .call ⟨.value _, _, _⟩, _, _, _, _⟩ _ _ _; first | refine Bl Y Y Y Y Y (by first | (apply h1 <;> (first | assumption | omega | exact A2 _ _ | exact Bc _ | exact A9 _ _ | exact Bi _ | rfl | (simp; omega))) | fail) ?_ | fail)
      | refine r_q hG Y Y Y ?_))
    | (show AL _ _ _ _ _ _ _ _; first | refine Bj Y Y Y ?_ | (refine At ?_; first | show AW _ _ _ _ _ _ | show ∃ x', _ < _ ∧ _)) | (show AW _ _ (.seq _ _) _ _ _; refine Ak ?_; intro Q1) | (show AW _ _ (.region _ _ false) _ _ _; refine Ae ?_; intro O1) | (show AW _ _ (.cond _ _ _) _ _ _; first | refine Aq Y ?_ | refine Ap Y ?_ | refine Bf Y (fun h => ?_) (fun h => ?_)) | (show AW _ _ (.skip) _ _ _; refine Aj ?_; first | show AW _ _ _ _ _ _ | show ∃ x', _ < _ ∧ _) | (show AW _ _ (.block _ _) _ _ _; refine Ag ?_; intro Q1) | (show AW _ _ (.exit _) _ _ _; refine Ao ?_; first | show AW _ _ _ _ _ _ | show ∃ x', _ < _ ∧ _) | (show AW _ _ (.ret) _ _ _; refine Ax ?_; try dsimp only [Au, Aa, A4, Af]) | fail)
  refine aw_loop (X := WiX r) (fun x => [(1, mT v), (5, bE ((r.take x.i).filter fun id => decide (v ∈ pathL id)) x.y), (9, .sl 1 .no (r.map mT)), (10, .int .i64 (r.length : Int)), (11, .int .i64 (x.i : Int))]) (fun x => bS0 off ((r.take x.i).filter fun id => decide (v ∈ pathL id)) x.y) (fun x => r.length - x.i) ⟨0, 0, Nat.zero_le _⟩ (by repeat (first | exact .nil _ | refine .cons rfl ?_)) (.refl _) ?_
  rintro ⟨q, y, hi⟩
  dsimp only
  by_cases hil : q < r.length
  · have hks := filter_take (p := fun id => decide (v ∈ pathL id)) hil
    have hgl : ((r.take q).filter fun id => decide (v ∈ pathL id)).length ≤ 255 := Nat.le_trans (List.length_filter_le _ _) (by rw [List.length_take]; omega)
    have hkk : r.getD q default < 18446744073709551616 := hrt _ (by simp [List.getD, hil])
    have hN := name_Within (v := v) hkk
    generalize ((r.take q).filter fun id => decide (v ∈ pathL id)) = g at *
    by_cases hb : v ∈ pathL (r.getD q default)
    · rw [decide_eq_true hb, if_pos rfl] at hks
      rw [decide_eq_true hb] at hN
      cases g with
      | nil =>
        repeat' (first
    | ((show AL _ _ _ _ _ _ _ _; refine Ah Y ?_); (first
      | (show AOp _ _ ⟨_, .move _, _, _, _, _⟩ _ _ _; refine Ar hG Y Y ?_)
      | (show AOp _ _ ⟨_, .assign _, _, _, _, _⟩ _ _ _; refine A7 hG Y Y ?_)
      | (show AOp _ _ ⟨_, .call ⟨.builtin .len, _, _⟩, _, _, _, _⟩ _ _ _; first | refine Br hG Y Y Y Y ?_ | refine B6 hG Y Y Y Y Y ?_)
      | (show AOp _ _ ⟨_, .binOp .add _ _ _ _, _, _, _, _⟩ _ _ _; first | refine Ad hG Y Y Y Y Y (by omega) ?_ | refine Ad (m := 1) hG Y Y Y Y Y (by omega) ?_ | refine Ab hG Y Y Y Y Y (by omega) ?_)
      | (show AOp _ _ ⟨_, .binOp _ _ _ _ _, _, _, _, _⟩ _ _ _; first | refine Aw hG Y Y Y Y Y (by omega) ?_ | refine Av hG Y Y Y Y Y (by omega) ?_ | (refine Am hG Y Y Y Y Y (fun h => ?_) (fun h => ?_)))
      | (show AOp _ _ ⟨_, .load _ _, _, _, _, _⟩ _ _ _; first | refine Al (α := UInt16) 0 hG Y Y Y Y (by omega) Y ?_ | refine Al (α := UInt16) 1 hG Y Y Y Y (by omega) Y ?_ | refine A0 hG Y Y Y ?_ | refine Bg 0 hG Y Y Y Y ?_)
      | (show AOp _ _ ⟨_, .indexAddr _ _ _, _, _, _, _⟩ _ _ _; first | refine A3 hG Y Y Y Y Y Y Y (by omega) ?_ | refine A1 hG Y Y Y Y Y Y Y (by omega) ?_ | refine Az hG Y Y Y Y Y Y Y (by omega) ?_ | refine Bb hG Y Y ?_)
      | (show AOp _ _ ⟨_, .buildSlice _ _ _, _, _, _, _⟩ _ _ _; first | refine r_mk (sz := 1) hG Y Y Y Y Y Y Y ?_)
      | (show AOp _ _ ⟨_, .call ⟨.builtin .append, _, _⟩, _, _, _, _⟩ _ _ _; fail)
      | (show AOp _ _ ⟨_, .call ⟨.value _, _, _⟩, _, _, _, _⟩ _ _ _; first | refine Bl Y Y Y Y Y (by first | (apply hN <;> (first | assumption | omega | exact A2 _ _ | exact Bc _ | exact A9 _ _ | exact Bi _ | rfl | (simp; omega))) | fail) ?_ | fail)
      | refine r_q hG Y Y Y ?_))
    | (show AL _ _ _ _ _ _ _ _; first | refine Bj Y Y Y ?_ | (refine At ?_; first | show AW _ _ _ _ _ _ | show ∃ x', _ < _ ∧ _)) | (show AW _ _ (.seq _ _) _ _ _; refine Ak ?_; intro Q1) | (show AW _ _ (.region _ _ false) _ _ _; refine Ae ?_; intro O1) | (show AW _ _ (.cond _ _ _) _ _ _; first | refine Aq Y ?_ | refine Ap Y ?_ | refine Bf Y (fun h => ?_) (fun h => ?_)) | (show AW _ _ (.skip) _ _ _; refine Aj ?_; first | show AW _ _ _ _ _ _ | show ∃ x', _ < _ ∧ _) | (show AW _ _ (.block _ _) _ _ _; refine Ag ?_; intro Q1) | (show AW _ _ (.exit _) _ _ _; refine Ao ?_; first | show AW _ _ _ _ _ _ | show ∃ x', _ < _ ∧ _) | (show AW _ _ (.ret) _ _ _; refine Ax ?_; try dsimp only [Au, Aa, A4, Af]) | fail)
        refine Ah rfl (aop_app0L (objs := fun _ => none) hG rfl rfl rfl rfl rfl ⟨_, rfl⟩ rfl rfl (fun i o h => by cases h) rfl rfl (by simp) (by simp) rfl (fun i' hi' => ?_))
        repeat' (first
    | ((show AL _ _ _ _ _ _ _ _; refine Ah Y ?_); (first
      | (show AOp _ _ ⟨_, .move _, _, _, _, _⟩ _ _ _; refine Ar hG Y Y ?_)
      | (show AOp _ _ ⟨_, .assign _, _, _, _, _⟩ _ _ _; refine A7 hG Y Y ?_)
      | (show AOp _ _ ⟨_, .call ⟨.builtin .len, _, _⟩, _, _, _, _⟩ _ _ _; first | refine Br hG Y Y Y Y ?_ | refine B6 hG Y Y Y Y Y ?_)
      | (show AOp _ _ ⟨_, .binOp .add _ _ _ _, _, _, _, _⟩ _ _ _; first | refine Ad hG Y Y Y Y Y (by omega) ?_ | refine Ad (m := 1) hG Y Y Y Y Y (by omega) ?_ | refine Ab hG Y Y Y Y Y (by omega) ?_)
      | (show AOp _ _ ⟨_, .binOp _ _ _ _ _, _, _, _, _⟩ _ _ _; first | refine Aw hG Y Y Y Y Y (by omega) ?_ | refine Av hG Y Y Y Y Y (by omega) ?_ | (refine Am hG Y Y Y Y Y (fun h => ?_) (fun h => ?_)))
      | (show AOp _ _ ⟨_, .load _ _, _, _, _, _⟩ _ _ _; first | refine Al (α := UInt16) 0 hG Y Y Y Y (by omega) Y ?_ | refine Al (α := UInt16) 1 hG Y Y Y Y (by omega) Y ?_ | refine A0 hG Y Y Y ?_ | refine Bg 0 hG Y Y Y Y ?_)
      | (show AOp _ _ ⟨_, .indexAddr _ _ _, _, _, _, _⟩ _ _ _; first | refine A3 hG Y Y Y Y Y Y Y (by omega) ?_ | refine A1 hG Y Y Y Y Y Y Y (by omega) ?_ | refine Az hG Y Y Y Y Y Y Y (by omega) ?_ | refine Bb hG Y Y ?_)
      | (show AOp _ _ ⟨_, .buildSlice _ _ _, _, _, _, _⟩ _ _ _; first | refine r_mk (sz := 1) hG Y Y Y Y Y Y Y ?_)
      | (show AOp _ _ ⟨_, .call ⟨.builtin .append, _, _⟩, _, _, _, _⟩ _ _ _; first | refine Bx (sz := 1) (xs := []) hG Y Y Y Y Y Y Y ⟨_, Y⟩ Y Y Y Y Y Y Y (by first | omega | (simp; omega)) (fun k => ?_) | refine B0 0 hG Y Y Y Y Y Y Y ⟨_, Y⟩ Y Y Y Y Y (by first | omega | (simp only [List.length_append, List.length_cons, List.length_nil]; omega)) (fun k => ?_) | fail)
      | refine r_q hG Y Y Y ?_))
    | (show AL _ _ _ _ _ _ _ _; first | refine Bj Y Y Y ?_ | (refine At ?_; first | show AW _ _ _ _ _ _ | show ∃ x', _ < _ ∧ _)) | (show AW _ _ (.seq _ _) _ _ _; refine Ak ?_; intro Q1) | (show AW _ _ (.region _ _ false) _ _ _; refine Ae ?_; intro O1) | (show AW _ _ (.cond _ _ _) _ _ _; first | refine Aq Y ?_ | refine Ap Y ?_ | refine Bf Y (fun h => ?_) (fun h => ?_)) | (show AW _ _ (.skip) _ _ _; refine Aj ?_; first | show AW _ _ _ _ _ _ | show ∃ x', _ < _ ∧ _) | (show AW _ _ (.block _ _) _ _ _; refine Ag ?_; intro Q1) | (show AW _ _ (.exit _) _ _ _; refine Ao ?_; first | show AW _ _ _ _ _ _ | show ∃ x', _ < _ ∧ _) | (show AW _ _ (.ret) _ _ _; refine Ax ?_; try dsimp only [Au, Aa, A4, Af]) | fail)
        exact ⟨⟨q + 1, i', by omega⟩, by dsimp only; omega, (.cons rfl (.consW rfl (.eq (by dsimp only; rw [hks]; rfl)) (.cons rfl (.cons rfl (.cons rfl (.nil _)))))), by dsimp only; rw [hks]; exact .refl _⟩
      | cons z g =>
        repeat' (first
    | ((show AL _ _ _ _ _ _ _ _; refine Ah Y ?_); (first
      | (show AOp _ _ ⟨_, .move _, _, _, _, _⟩ _ _ _; refine Ar hG Y Y ?_)
      | (show AOp _ _ ⟨_, .assign _, _, _, _, _⟩ _ _ _; refine A7 hG Y Y ?_)
      | (show AOp _ _ ⟨_, .call ⟨.builtin .len, _, _⟩, _, _, _, _⟩ _ _ _; first | refine Br hG Y Y Y Y ?_ | refine B6 hG Y Y Y Y Y ?_)
      | (show AOp _ _ ⟨_, .binOp .add _ _ _ _, _, _, _, _⟩ _ _ _; first | refine Ad hG Y Y Y Y Y (by omega) ?_ | refine Ad (m := 1) hG Y Y Y Y Y (by omega) ?_ | refine Ab hG Y Y Y Y Y (by omega) ?_)
      | (show AOp _ _ ⟨_, .binOp _ _ _ _ _, _, _, _, _⟩ _ _ _; first | refine Aw hG Y Y Y Y Y (by omega) ?_ | refine Av hG Y Y Y Y Y (by omega) ?_ | (refine Am hG Y Y Y Y Y (fun h => ?_) (fun h => ?_)))
      | (show AOp _ _ ⟨_, .load _ _, _, _, _, _⟩ _ _ _; first | refine Al (α := UInt16) 0 hG Y Y Y Y (by omega) Y ?_ | refine Al (α := UInt16) 1 hG Y Y Y Y (by omega) Y ?_ | refine A0 hG Y Y Y ?_ | refine Bg 0 hG Y Y Y Y ?_)
      | (show AOp _ _ ⟨_, .indexAddr _ _ _, _, _, _, _⟩ _ _ _; first | refine A3 hG Y Y Y Y Y Y Y (by omega) ?_ | refine A1 hG Y Y Y Y Y Y Y (by omega) ?_ | refine Az hG Y Y Y Y Y Y Y (by omega) ?_ | refine Bb hG Y Y ?_)
      | (show AOp _ _ ⟨_, .buildSlice _ _ _, _, _, _, _⟩ _ _ _; first | refine r_mk (sz := 1) hG Y Y Y Y Y Y Y ?_)
      | (show AOp _ _ ⟨_, .call ⟨.builtin .append, _, _⟩, _, _, _, _⟩ _ _ _; fail)
      | (show AOp _ _ ⟨_, .call ⟨.value _, _, _⟩, _, _, _, _⟩ _ _ _; first | refine Bl Y Y Y Y Y (by first | (apply hN <;> (first | assumption | omega | exact A2 _ _ | exact Bc _ | exact A9 _ _ | exact Bi _ | rfl | (simp; omega))) | fail) ?_ | fail)
      | refine r_q hG Y Y Y ?_))
    | (show AL _ _ _ _ _ _ _ _; first | refine Bj Y Y Y ?_ | (refine At ?_; first | show AW _ _ _ _ _ _ | show ∃ x', _ < _ ∧ _)) | (show AW _ _ (.seq _ _) _ _ _; refine Ak ?_; intro Q1) | (show AW _ _ (.region _ _ false) _ _ _; refine Ae ?_; intro O1) | (show AW _ _ (.cond _ _ _) _ _ _; first | refine Aq Y ?_ | refine Ap Y ?_ | refine Bf Y (fun h => ?_) (fun h => ?_)) | (show AW _ _ (.skip) _ _ _; refine Aj ?_; first | show AW _ _ _ _ _ _ | show ∃ x', _ < _ ∧ _) | (show AW _ _ (.block _ _) _ _ _; refine Ag ?_; intro Q1) | (show AW _ _ (.exit _) _ _ _; refine Ao ?_; first | show AW _ _ _ _ _ _ | show ∃ x', _ < _ ∧ _) | (show AW _ _ (.ret) _ _ _; refine Ax ?_; try dsimp only [Au, Aa, A4, Af]) | fail)
        refine Ah rfl (aop_appL (n := 0) (objs := fun _ => none) hG rfl rfl rfl rfl rfl ⟨_, rfl⟩ rfl rfl ?_ rfl (fun i o h => by cases h) rfl rfl ?_ ?_ rfl (fun i' hi' => ?_))
        · simp [rowT_length]
        · intro q' hq; simp [flat, T.cells, mT] at hq; subst hq; rfl
        · simp only [List.length_cons, List.length_nil] at *; omega
        repeat' (first
    | ((show AL _ _ _ _ _ _ _ _; refine Ah Y ?_); (first
      | (show AOp _ _ ⟨_, .move _, _, _, _, _⟩ _ _ _; refine Ar hG Y Y ?_)
      | (show AOp _ _ ⟨_, .assign _, _, _, _, _⟩ _ _ _; refine A7 hG Y Y ?_)
      | (show AOp _ _ ⟨_, .call ⟨.builtin .len, _, _⟩, _, _, _, _⟩ _ _ _; first | refine Br hG Y Y Y Y ?_ | refine B6 hG Y Y Y Y Y ?_)
      | (show AOp _ _ ⟨_, .binOp .add _ _ _ _, _, _, _, _⟩ _ _ _; first | refine Ad hG Y Y Y Y Y (by omega) ?_ | refine Ad (m := 1) hG Y Y Y Y Y (by omega) ?_ | refine Ab hG Y Y Y Y Y (by omega) ?_)
      | (show AOp _ _ ⟨_, .binOp _ _ _ _ _, _, _, _, _⟩ _ _ _; first | refine Aw hG Y Y Y Y Y (by omega) ?_ | refine Av hG Y Y Y Y Y (by omega) ?_ | (refine Am hG Y Y Y Y Y (fun h => ?_) (fun h => ?_)))
      | (show AOp _ _ ⟨_, .load _ _, _, _, _, _⟩ _ _ _; first | refine Al (α := UInt16) 0 hG Y Y Y Y (by omega) Y ?_ | refine Al (α := UInt16) 1 hG Y Y Y Y (by omega) Y ?_ | refine A0 hG Y Y Y ?_ | refine Bg 0 hG Y Y Y Y ?_)
      | (show AOp _ _ ⟨_, .indexAddr _ _ _, _, _, _, _⟩ _ _ _; first | refine A3 hG Y Y Y Y Y Y Y (by omega) ?_ | refine A1 hG Y Y Y Y Y Y Y (by omega) ?_ | refine Az hG Y Y Y Y Y Y Y (by omega) ?_ | refine Bb hG Y Y ?_)
      | (show AOp _ _ ⟨_, .buildSlice _ _ _, _, _, _, _⟩ _ _ _; first | refine r_mk (sz := 1) hG Y Y Y Y Y Y Y ?_)
      | (show AOp _ _ ⟨_, .call ⟨.builtin .append, _, _⟩, _, _, _, _⟩ _ _ _; first | refine Bx (sz := 1) (xs := []) hG Y Y Y Y Y Y Y ⟨_, Y⟩ Y Y Y Y Y Y Y (by first | omega | (simp; omega)) (fun k => ?_) | refine B0 0 hG Y Y Y Y Y Y Y ⟨_, Y⟩ Y Y Y Y Y (by first | omega | (simp only [List.length_append, List.length_cons, List.length_nil]; omega)) (fun k => ?_) | fail)
      | refine r_q hG Y Y Y ?_))
    | (show AL _ _ _ _ _ _ _ _; first | refine Bj Y Y Y ?_ | (refine At ?_; first | show AW _ _ _ _ _ _ | show ∃ x', _ < _ ∧ _)) | (show AW _ _ (.seq _ _) _ _ _; refine Ak ?_; intro Q1) | (show AW _ _ (.region _ _ false) _ _ _; refine Ae ?_; intro O1) | (show AW _ _ (.cond _ _ _) _ _ _; first | refine Aq Y ?_ | refine Ap Y ?_ | refine Bf Y (fun h => ?_) (fun h => ?_)) | (show AW _ _ (.skip) _ _ _; refine Aj ?_; first | show AW _ _ _ _ _ _ | show ∃ x', _ < _ ∧ _) | (show AW _ _ (.block _ _) _ _ _; refine Ag ?_; intro Q1) | (show AW _ _ (.exit _) _ _ _; refine Ao ?_; first | show AW _ _ _ _ _ _ | show ∃ x', _ < _ ∧ _) | (show AW _ _ (.ret) _ _ _; refine Ax ?_; try dsimp only [Au, Aa, A4, Af]) | fail)
        exact ⟨⟨q + 1, i', by omega⟩, by dsimp only; omega, (.cons rfl (.consW rfl (.eq (by dsimp only; rw [hks]; simp [bE])) (.cons rfl (.cons rfl (.cons rfl (.nil _)))))), by
          dsimp only; rw [hks]
          show Go.Ts.GStep ⟨[(i', .cells ((rowT mT (z :: g).toArray).drop 0 ++ flat [mT (r.getD q default)]))], [], off, none⟩ _
          rw [rowN_snoc]; exact .refl _⟩
    · rw [decide_eq_false hb, if_neg (by simp), List.append_nil] at hks
      rw [decide_eq_false hb] at hN
      cases g with
      | nil =>
        repeat' (first
    | ((show AL _ _ _ _ _ _ _ _; refine Ah Y ?_); (first
      | (show AOp _ _ ⟨_, .move _, _, _, _, _⟩ _ _ _; refine Ar hG Y Y ?_)
      | (show AOp _ _ ⟨_, .assign _, _, _, _, _⟩ _ _ _; refine A7 hG Y Y ?_)
      | (show AOp _ _ ⟨_, .call ⟨.builtin .len, _, _⟩, _, _, _, _⟩ _ _ _; first | refine Br hG Y Y Y Y ?_ | refine B6 hG Y Y Y Y Y ?_)
      | (show AOp _ _ ⟨_, .binOp .add _ _ _ _, _, _, _, _⟩ _ _ _; first | refine Ad hG Y Y Y Y Y (by omega) ?_ | refine Ad (m := 1) hG Y Y Y Y Y (by omega) ?_ | refine Ab hG Y Y Y Y Y (by omega) ?_)
      | (show AOp _ _ ⟨_, .binOp _ _ _ _ _, _, _, _, _⟩ _ _ _; first | refine Aw hG Y Y Y Y Y (by omega) ?_ | refine Av hG Y Y Y Y Y (by omega) ?_ | (refine Am hG Y Y Y Y Y (fun h => ?_) (fun h => ?_)))
      | (show AOp _ _ ⟨_, .load _ _, _, _, _, _⟩ _ _ _; first | refine Al (α := UInt16) 0 hG Y Y Y Y (by omega) Y ?_ | refine Al (α := UInt16) 1 hG Y Y Y Y (by omega) Y ?_ | refine A0 hG Y Y Y ?_ | refine Bg 0 hG Y Y Y Y ?_)
      | (show AOp _ _ ⟨_, .indexAddr _ _ _, _, _, _, _⟩ _ _ _; first | refine A3 hG Y Y Y Y Y Y Y (by omega) ?_ | refine A1 hG Y Y Y Y Y Y Y (by omega) ?_ | refine Az hG Y Y Y Y Y Y Y (by omega) ?_ | refine Bb hG Y Y ?_)
      | (show AOp _ _ ⟨_, .buildSlice _ _ _, _, _, _, _⟩ _ _ _; first | refine r_mk (sz := 1) hG Y Y Y Y Y Y Y ?_)
      | (show AOp _ _ ⟨_, .call ⟨.builtin .append, _, _⟩, _, _, _, _⟩ _ _ _; first | refine Bx (sz := 1) (xs := []) hG Y Y Y Y Y Y Y ⟨_, Y⟩ Y Y Y Y Y Y Y (by first | omega | (simp; omega)) (fun k => ?_) | refine B0 0 hG Y Y Y Y Y Y Y ⟨_, Y⟩ Y Y Y Y Y (by first | omega | (simp only [List.length_append, List.length_cons, List.length_nil]; omega)) (fun k => ?_) | fail)
      | (show AOp _ _ ⟨_, .call ⟨.value _, _, _⟩, _, _, _, _⟩ _ _ _; first | refine Bl Y Y Y Y Y (by first | (apply hN <;> (first | assumption | omega | exact A2 _ _ | exact Bc _ | exact A9 _ _ | exact Bi _ | rfl | (simp; omega))) | fail) ?_ | fail)
      | refine r_q hG Y Y Y ?_))
    | (show AL _ _ _ _ _ _ _ _; first | refine Bj Y Y Y ?_ | (refine At ?_; first | show AW _ _ _ _ _ _ | show ∃ x', _ < _ ∧ _)) | (show AW _ _ (.seq _ _) _ _ _; refine Ak ?_; intro Q1) | (show AW _ _ (.region _ _ false) _ _ _; refine Ae ?_; intro O1) | (show AW _ _ (.cond _ _ _) _ _ _; first | refine Aq Y ?_ | refine Ap Y ?_ | refine Bf Y (fun h => ?_) (fun h => ?_)) | (show AW _ _ (.skip) _ _ _; refine Aj ?_; first | show AW _ _ _ _ _ _ | show ∃ x', _ < _ ∧ _) | (show AW _ _ (.block _ _) _ _ _; refine Ag ?_; intro Q1) | (show AW _ _ (.exit _) _ _ _; refine Ao ?_; first | show AW _ _ _ _ _ _ | show ∃ x', _ < _ ∧ _) | (show AW _ _ (.ret) _ _ _; refine Ax ?_; try dsimp only [Au, Aa, A4, Af]) | fail)
        exact ⟨⟨q + 1, y, by omega⟩, by dsimp only; omega, (.cons rfl (.consW rfl (.eq (by dsimp only; rw [hks])) (.cons rfl (.cons rfl (.cons rfl (.nil _)))))), by dsimp only; rw [hks]; exact .refl _⟩
      | cons z g =>
        repeat' (first
    | ((show AL _ _ _ _ _ _ _ _; refine Ah Y ?_); (first
      | (show AOp _ _ ⟨_, .move _, _, _, _, _⟩ _ _ _; refine Ar hG Y Y ?_)
      | (show AOp _ _ ⟨_, .assign _, _, _, _, _⟩ _ _ _; refine A7 hG Y Y ?_)
      | (show AOp _ _ ⟨_, .call ⟨.builtin .len, _, _⟩, _, _, _, _⟩ _ _ _; first | refine Br hG Y Y Y Y ?_ | refine B6 hG Y Y Y Y Y ?_)
      | (show AOp _ _ ⟨_, .binOp .add _ _ _ _, _, _, _, _⟩ _ _ _; first | refine Ad hG Y Y Y Y Y (by omega) ?_ | refine Ad (m := 1) hG Y Y Y Y Y (by omega) ?_ | refine Ab hG Y Y Y Y Y (by omega) ?_)
      | (show AOp _ _ ⟨_, .binOp _ _ _ _ _, _, _, _, _⟩ _ _ _; first | refine Aw hG Y Y Y Y Y (by omega) ?_ | refine Av hG Y Y Y Y Y (by omega) ?_ | (refine Am hG Y Y Y Y Y (fun h => ?_) (fun h => ?_)))
      | (show AOp _ _ ⟨_, .load _ _, _, _, _, _⟩ _ _ _; first | refine Al (α := UInt16) 0 hG Y Y Y Y (by omega) Y ?_ | refine Al (α := UInt16) 1 hG Y Y Y Y (by omega) Y ?_ | refine A0 hG Y Y Y ?_ | refine Bg 0 hG Y Y Y Y ?_)
      | (show AOp _ _ ⟨_, .indexAddr _ _ _, _, _, _, _⟩ _ _ _; first | refine A3 hG Y Y Y Y Y Y Y (by omega) ?_ | refine A1 hG Y Y Y Y Y Y Y (by omega) ?_ | refine Az hG Y Y Y Y Y Y Y (by omega) ?_ | refine Bb hG Y Y ?_)
      | (show AOp _ _ ⟨_, .buildSlice _ _ _, _, _, _, _⟩ _ _ _; first | refine r_mk (sz := 1) hG Y Y Y Y Y Y Y ?_)
      | (show AOp _ _ ⟨_, .call ⟨.builtin .append, _, _⟩, _, _, _, _⟩ _ _ _; first | refine Bx (sz := 1) (xs := []) hG Y Y Y Y Y Y Y ⟨_, Y⟩ Y Y Y Y Y Y Y (by first | omega | (simp; omega)) (fun k => ?_) | refine B0 0 hG Y Y Y Y Y Y Y ⟨_, Y⟩ Y Y Y Y Y (by first | omega | (simp only [List.length_append, List.length_cons, List.length_nil]; omega)) (fun k => ?_) | fail)
      | (show AOp _ _ ⟨_, .call ⟨.value _, _, _⟩, _, _, _, _⟩ _ _ _; first | refine Bl Y Y Y Y Y (by first | (apply hN <;> (first | assumption | omega | exact A2 _ _ | exact Bc _ | exact A9 _ _ | exact Bi _ | rfl | (simp; omega))) | fail) ?_ | fail)
      | refine r_q hG Y Y Y ?_))
    | (show AL _ _ _ _ _ _ _ _; first | refine Bj Y Y Y ?_ | (refine At ?_; first | show AW _ _ _ _ _ _ | show ∃ x', _ < _ ∧ _)) | (show AW _ _ (.seq _ _) _ _ _; refine Ak ?_; intro Q1) | (show AW _ _ (.region _ _ false) _ _ _; refine Ae ?_; intro O1) | (show AW _ _ (.cond _ _ _) _ _ _; first | refine Aq Y ?_ | refine Ap Y ?_ | refine Bf Y (fun h => ?_) (fun h => ?_)) | (show AW _ _ (.skip) _ _ _; refine Aj ?_; first | show AW _ _ _ _ _ _ | show ∃ x', _ < _ ∧ _) | (show AW _ _ (.block _ _) _ _ _; refine Ag ?_; intro Q1) | (show AW _ _ (.exit _) _ _ _; refine Ao ?_; first | show AW _ _ _ _ _ _ | show ∃ x', _ < _ ∧ _) | (show AW _ _ (.ret) _ _ _; refine Ax ?_; try dsimp only [Au, Aa, A4, Af]) | fail)
        exact ⟨⟨q + 1, y, by omega⟩, by dsimp only; omega, (.cons rfl (.consW rfl (.eq (by dsimp only; rw [hks])) (.cons rfl (.cons rfl (.cons rfl (.nil _)))))), by dsimp only; rw [hks]; exact .refl _⟩
  · have hqe : r.take q = r := List.take_of_length_le (by omega)
    rw [hqe]
    have hgl : (r.filter fun id => decide (v ∈ pathL id)).length ≤ 255 := Nat.le_trans (List.length_filter_le _ _) hrl
    obtain ⟨g, hg⟩ : ∃ g, (r.filter fun id => decide (v ∈ pathL id)) = g := ⟨_, rfl⟩
    rw [hg]
    rw [hg] at hgl
    have hR : srtL (r.filter fun id => decide (v ∈ pathL id)) = srtL g := by rw [hg]
    have hgl2 := srtL_len g
    cases g with
    | nil =>
      have hs0 := sort0
      repeat' (first
    | ((show AL _ _ _ _ _ _ _ _; refine Ah Y ?_); (first
      | (show AOp _ _ ⟨_, .move _, _, _, _, _⟩ _ _ _; refine Ar hG Y Y ?_)
      | (show AOp _ _ ⟨_, .assign _, _, _, _, _⟩ _ _ _; refine A7 hG Y Y ?_)
      | (show AOp _ _ ⟨_, .call ⟨.builtin .len, _, _⟩, _, _, _, _⟩ _ _ _; first | refine Br hG Y Y Y Y ?_ | refine B6 hG Y Y Y Y Y ?_)
      | (show AOp _ _ ⟨_, .binOp .add _ _ _ _, _, _, _, _⟩ _ _ _; first | refine Ad hG Y Y Y Y Y (by omega) ?_ | refine Ad (m := 1) hG Y Y Y Y Y (by omega) ?_ | refine Ab hG Y Y Y Y Y (by omega) ?_)
      | (show AOp _ _ ⟨_, .binOp _ _ _ _ _, _, _, _, _⟩ _ _ _; first | refine Aw hG Y Y Y Y Y (by omega) ?_ | refine Av hG Y Y Y Y Y (by omega) ?_ | (refine Am hG Y Y Y Y Y (fun h => ?_) (fun h => ?_)))
      | (show AOp _ _ ⟨_, .load _ _, _, _, _, _⟩ _ _ _; first | refine Al (α := UInt16) 0 hG Y Y Y Y (by omega) Y ?_ | refine Al (α := UInt16) 1 hG Y Y Y Y (by omega) Y ?_ | refine A0 hG Y Y Y ?_ | refine Bg 0 hG Y Y Y Y ?_)
      | (show AOp _ _ ⟨_, .indexAddr _ _ _, _, _, _, _⟩ _ _ _; first | refine A3 hG Y Y Y Y Y Y Y (by omega) ?_ | refine A1 hG Y Y Y Y Y Y Y (by omega) ?_ | refine Az hG Y Y Y Y Y Y Y (by omega) ?_ | refine Bb hG Y Y ?_)
      | (show AOp _ _ ⟨_, .buildSlice _ _ _, _, _, _, _⟩ _ _ _; first | refine r_mk (sz := 1) hG Y Y Y Y Y Y Y ?_)
      | (show AOp _ _ ⟨_, .call ⟨.builtin .append, _, _⟩, _, _, _, _⟩ _ _ _; first | refine Bx (sz := 1) (xs := []) hG Y Y Y Y Y Y Y ⟨_, Y⟩ Y Y Y Y Y Y Y (by first | omega | (simp; omega)) (fun k => ?_) | refine B0 0 hG Y Y Y Y Y Y Y ⟨_, Y⟩ Y Y Y Y Y (by first | omega | (simp only [List.length_append, List.length_cons, List.length_nil]; omega)) (fun k => ?_) | fail)
      | (show AOp _ _ ⟨_, .call ⟨.value _, _, _⟩, _, _, _, _⟩ _ _ _; first | refine Bl Y Y Y Y Y (by first | (apply hs0 <;> (first | assumption | omega | exact A2 _ _ | exact Bc _ | exact A9 _ _ | exact Bi _ | rfl | (simp; omega))) | fail) ?_ | fail)
      | refine r_q hG Y Y Y ?_))
    | (show AL _ _ _ _ _ _ _ _; first | refine Bj Y Y Y ?_ | (refine At ?_; first | show AW _ _ _ _ _ _ | show ∃ x', _ < _ ∧ _)) | (show AW _ _ (.seq _ _) _ _ _; refine Ak ?_; intro Q1) | (show AW _ _ (.region _ _ false) _ _ _; refine Ae ?_; intro O1) | (show AW _ _ (.cond _ _ _) _ _ _; first | refine Aq Y ?_ | refine Ap Y ?_ | refine Bf Y (fun h => ?_) (fun h => ?_)) | (show AW _ _ (.skip) _ _ _; refine Aj ?_; first | show AW _ _ _ _ _ _ | show ∃ x', _ < _ ∧ _) | (show AW _ _ (.block _ _) _ _ _; refine Ag ?_; intro Q1) | (show AW _ _ (.exit _) _ _ _; refine Ao ?_; first | show AW _ _ _ _ _ _ | show ∃ x', _ < _ ∧ _) | (show AW _ _ (.ret) _ _ _; refine Ax ?_; try dsimp only [Au, Aa, A4, Af]) | fail)
      rw [hR, List.length_eq_zero_iff.1 hgl2]
      exact Bz (Bp rfl Bn) (.nil 1) rfl
    | cons z g =>
      have hs1 := srt_sort (d0 := (z :: g).toArray) (by simp at hgl ⊢; omega)
      have hsz : (z :: g).toArray.size = (z :: g).length := rfl
      repeat' (first
    | ((show AL _ _ _ _ _ _ _ _; refine Ah Y ?_); (first
      | (show AOp _ _ ⟨_, .move _, _, _, _, _⟩ _ _ _; refine Ar hG Y Y ?_)
      | (show AOp _ _ ⟨_, .assign _, _, _, _, _⟩ _ _ _; refine A7 hG Y Y ?_)
      | (show AOp _ _ ⟨_, .call ⟨.builtin .len, _, _⟩, _, _, _, _⟩ _ _ _; first | refine Br hG Y Y Y Y ?_ | refine B6 hG Y Y Y Y Y ?_)
      | (show AOp _ _ ⟨_, .binOp .add _ _ _ _, _, _, _, _⟩ _ _ _; first | refine Ad hG Y Y Y Y Y (by omega) ?_ | refine Ad (m := 1) hG Y Y Y Y Y (by omega) ?_ | refine Ab hG Y Y Y Y Y (by omega) ?_)
      | (show AOp _ _ ⟨_, .binOp _ _ _ _ _, _, _, _, _⟩ _ _ _; first | refine Aw hG Y Y Y Y Y (by omega) ?_ | refine Av hG Y Y Y Y Y (by omega) ?_ | (refine Am hG Y Y Y Y Y (fun h => ?_) (fun h => ?_)))
      | (show AOp _ _ ⟨_, .load _ _, _, _, _, _⟩ _ _ _; first | refine Al (α := UInt16) 0 hG Y Y Y Y (by omega) Y ?_ | refine Al (α := UInt16) 1 hG Y Y Y Y (by omega) Y ?_ | refine A0 hG Y Y Y ?_ | refine Bg 0 hG Y Y Y Y ?_)
      | (show AOp _ _ ⟨_, .indexAddr _ _ _, _, _, _, _⟩ _ _ _; first | refine A3 hG Y Y Y Y Y Y Y (by omega) ?_ | refine A1 hG Y Y Y Y Y Y Y (by omega) ?_ | refine Az hG Y Y Y Y Y Y Y (by omega) ?_ | refine Bb hG Y Y ?_)
      | (show AOp _ _ ⟨_, .buildSlice _ _ _, _, _, _, _⟩ _ _ _; first | refine r_mk (sz := 1) hG Y Y Y Y Y Y Y ?_)
      | (show AOp _ _ ⟨_, .call ⟨.builtin .append, _, _⟩, _, _, _, _⟩ _ _ _; first | refine Bx (sz := 1) (xs := []) hG Y Y Y Y Y Y Y ⟨_, Y⟩ Y Y Y Y Y Y Y (by first | omega | (simp; omega)) (fun k => ?_) | refine B0 0 hG Y Y Y Y Y Y Y ⟨_, Y⟩ Y Y Y Y Y (by first | omega | (simp only [List.length_append, List.length_cons, List.length_nil]; omega)) (fun k => ?_) | fail)
      | (show AOp _ _ ⟨_, .call ⟨.value _, _, _⟩, _, _, _, _⟩ _ _ _; first | refine r_row Y Y Y Y Y (List.Perm.refl _) hs1 (by assumption) ?_ | fail)
      | refine r_q hG Y Y Y ?_))
    | (show AL _ _ _ _ _ _ _ _; first | refine Bj Y Y Y ?_ | (refine At ?_; first | show AW _ _ _ _ _ _ | show ∃ x', _ < _ ∧ _)) | (show AW _ _ (.seq _ _) _ _ _; refine Ak ?_; intro Q1) | (show AW _ _ (.region _ _ false) _ _ _; (fail_if_success show AW _ _ (.region 9 _ _) _ _ _); refine Ae ?_; intro O1) | (show AW _ _ (.cond _ _ _) _ _ _; first | refine Aq Y ?_ | refine Ap Y ?_ | refine Bf Y (fun h => ?_) (fun h => ?_)) | (show AW _ _ (.skip) _ _ _; refine Aj ?_; first | show AW _ _ _ _ _ _ | show ∃ x', _ < _ ∧ _) | (show AW _ _ (.block _ _) _ _ _; refine Ag ?_; intro Q1) | (show AW _ _ (.exit _) _ _ _; refine Ao ?_; first | show AW _ _ _ _ _ _ | show ∃ x', _ < _ ∧ _) | (show AW _ _ (.ret) _ _ _; refine Ax ?_; try dsimp only [Au, Aa, A4, Af]) | fail)
      have es : rowT mT (Go.Sort.sort ltQ (z :: g).toArray) = (srtL (z :: g)).map mT := by
        unfold srtL rowT; induction (Go.Sort.sort ltQ (z :: g).toArray).toList with
        | nil => rfl
        | cons a l ih => simpa [flat, Ac] using ih
      rw [es]
      have hln : ((srtL (z :: g)).map mT).length = g.length + 1 := by rw [List.length_map, hgl2]; rfl
      refine aw_freeze 0 5 rfl rfl ?_ ?_ ?_
      · rw [hln]; simp
      · refine List.all_eq_true.2 fun c hc => ?_
        obtain ⟨x, _, rfl⟩ := List.mem_map.1 (List.mem_of_mem_drop (List.mem_of_mem_take hc))
        rfl
      have ec : chunks 1 (z :: g).length ((((srtL (z :: g)).map mT).drop 0).take ((z :: g).length * 1)) = (srtL (z :: g)).map mT := by
        rw [List.drop_zero, List.take_of_length_le (by rw [hln]; simp)]
        exact chunks_one _ _ hln
      rw [ec]
      repeat' (first
    | ((show AL _ _ _ _ _ _ _ _; refine Ah Y ?_); (first
      | (show AOp _ _ ⟨_, .move _, _, _, _, _⟩ _ _ _; refine Ar hG Y Y ?_)
      | (show AOp _ _ ⟨_, .assign _, _, _, _, _⟩ _ _ _; refine A7 hG Y Y ?_)
      | (show AOp _ _ ⟨_, .call ⟨.builtin .len, _, _⟩, _, _, _, _⟩ _ _ _; first | refine Br hG Y Y Y Y ?_ | refine B6 hG Y Y Y Y Y ?_)
      | (show AOp _ _ ⟨_, .binOp .add _ _ _ _, _, _, _, _⟩ _ _ _; first | refine Ad hG Y Y Y Y Y (by omega) ?_ | refine Ad (m := 1) hG Y Y Y Y Y (by omega) ?_ | refine Ab hG Y Y Y Y Y (by omega) ?_)
      | (show AOp _ _ ⟨_, .binOp _ _ _ _ _, _, _, _, _⟩ _ _ _; first | refine Aw hG Y Y Y Y Y (by omega) ?_ | refine Av hG Y Y Y Y Y (by omega) ?_ | (refine Am hG Y Y Y Y Y (fun h => ?_) (fun h => ?_)))
      | (show AOp _ _ ⟨_, .load _ _, _, _, _, _⟩ _ _ _; first | refine Al (α := UInt16) 0 hG Y Y Y Y (by omega) Y ?_ | refine Al (α := UInt16) 1 hG Y Y Y Y (by omega) Y ?_ | refine A0 hG Y Y Y ?_ | refine Bg 0 hG Y Y Y Y ?_)
      | (show AOp _ _ ⟨_, .indexAddr _ _ _, _, _, _, _⟩ _ _ _; first | refine A3 hG Y Y Y Y Y Y Y (by omega) ?_ | refine A1 hG Y Y Y Y Y Y Y (by omega) ?_ | refine Az hG Y Y Y Y Y Y Y (by omega) ?_ | refine Bb hG Y Y ?_)
      | (show AOp _ _ ⟨_, .buildSlice _ _ _, _, _, _, _⟩ _ _ _; first | refine r_mk (sz := 1) hG Y Y Y Y Y Y Y ?_)
      | (show AOp _ _ ⟨_, .call ⟨.builtin .append, _, _⟩, _, _, _, _⟩ _ _ _; first | refine Bx (sz := 1) (xs := []) hG Y Y Y Y Y Y Y ⟨_, Y⟩ Y Y Y Y Y Y Y (by first | omega | (simp; omega)) (fun k => ?_) | refine B0 0 hG Y Y Y Y Y Y Y ⟨_, Y⟩ Y Y Y Y Y (by first | omega | (simp only [List.length_append, List.length_cons, List.length_nil]; omega)) (fun k => ?_) | fail)
      | refine r_q hG Y Y Y ?_))
    | (show AL _ _ _ _ _ _ _ _; first | refine Bj Y Y Y ?_ | (refine At ?_; first | show AW _ _ _ _ _ _ | show ∃ x', _ < _ ∧ _)) | (show AW _ _ (.seq _ _) _ _ _; refine Ak ?_; intro Q1) | (show AW _ _ (.region _ _ false) _ _ _; refine Ae ?_; intro O1) | (show AW _ _ (.cond _ _ _) _ _ _; first | refine Aq Y ?_ | refine Ap Y ?_ | refine Bf Y (fun h => ?_) (fun h => ?_)) | (show AW _ _ (.skip) _ _ _; refine Aj ?_; first | show AW _ _ _ _ _ _ | show ∃ x', _ < _ ∧ _) | (show AW _ _ (.block _ _) _ _ _; refine Ag ?_; intro Q1) | (show AW _ _ (.exit _) _ _ _; refine Ao ?_; first | show AW _ _ _ _ _ _ | show ∃ x', _ < _ ∧ _) | (show AW _ _ (.ret) _ _ _; refine Ax ?_; try dsimp only [Au, Aa, A4, Af]) | fail)
      rw [hR]
      exact Bz (Bp rfl Bn) (.refl _) rfl
end Go.Proofs.Ytmckbfdklcmogaa
namespace Go.Proofs.Ytmckbfdklcmogaa
open Go.Ts
set_option linter.unusedSimpArgs false
set_option linter.unusedVariables false
set_option linter.unnecessarySimpa false
attribute [local irreducible] Go.Ts.AW Go.Ts.AOps Go.Ts.AL Go.Ts.AOp Go.Ts.ACalls Go.Ts.DL Go.Ts.DQ0 Go.Ts.EL
def insN (x : Nat) : List Nat → List Nat
  | [] => [x]
  | y :: l => if y < x then y :: insN x l else x :: y :: l
def isort (l : List Nat) : List Nat := l.foldl (fun a x => insN x a) []
theorem insN_perm (x : Nat) : ∀ l : List Nat, (insN x l).Perm (x :: l)
  | [] => .refl _
  | y :: l => by
    rw [insN]; split
    · exact ((insN_perm x l).cons y).trans (.swap x y l)
    · exact .refl _
theorem insN_sorted (x : Nat) : ∀ l : List Nat, l.Pairwise (fun x y => ¬ y < x) → (insN x l).Pairwise (fun x y => ¬ y < x)
  | [], _ => by simp [insN]
  | y :: l, h => by
    obtain ⟨h1, h2⟩ := List.pairwise_cons.1 h
    rw [insN]; split
    · rename_i h3
      refine List.pairwise_cons.2 ⟨fun z hz => ?_, insN_sorted x l h2⟩
      rcases List.mem_cons.1 ((insN_perm x l).mem_iff.1 hz) with rfl | hz
      · omega
      · exact h1 z hz
    · rename_i h3
      refine List.pairwise_cons.2 ⟨fun z hz => ?_, h⟩
      rcases List.mem_cons.1 hz with rfl | hz
      · exact h3
      · have := h1 z hz; omega
theorem isort_spec : ∀ (l a : List Nat), a.Pairwise (fun x y => ¬ y < x) → (l.foldl (fun a x => insN x a) a).Perm (l ++ a) ∧ (l.foldl (fun a x => insN x a) a).Pairwise (fun x y => ¬ y < x)
  | [], a, h => ⟨.refl _, h⟩
  | x :: l, a, h => by
    obtain ⟨h1, h2⟩ := isort_spec l (insN x a) (insN_sorted x a h)
    refine ⟨h1.trans (((insN_perm x a).append_left l).trans ?_), h2⟩
    rw [List.cons_append]; exact List.perm_middle
theorem srtL_isort (l : List Nat) : srtL l = isort l :=
  sorted_eq _ _ ((srtL_spec l).1.trans (by have := (isort_spec l [] .nil).1; rw [List.append_nil] at this; exact this.symm)) (srtL_spec l).2 (isort_spec l [] .nil).2
def reachI (m : List (Nat × Int)) : Nat → List Nat → List Nat → List Nat
  | 0, _, out => out
  | f + 1, lv, out => if lv = [] then out else reachI m f (isort ((m.map (·.1)).filter (belowP m lv))) (out ++ lv)
theorem reachI_eq (m : List (Nat × Int)) : ∀ (f : Nat) (lv out : List Nat), reachGo m f lv out = reachI m f lv out
  | 0, lv, out => rfl
  | f + 1, lv, out => by rw [reachGo, reachI, nextL, srtL_isort, reachI_eq m f]
theorem reachE {own : Own} {xs : List T} {l : List OB} (e : xs = l.map oT) (hl : l.length < 256) {R : List Nat} (hR : reachI (kinds l) 8 (if khas (kinds l) 1 = true then [1] else []) [] = R) : Ts.Pure Try.prog 10 [.sl 13 own xs] (.sl 1 .no (R.map mT)) := by
  refine Pure.weak (us := [.sl 13 .no (l.map oT)]) ?_ (wk1 (by rw [e]; exact .own _ _ _))
  rw [← hR, ← reachI_eq]; exact walk_Reach hl
theorem withinE {own : Own} {xs : List T} {l : List OB} {v : Nat} (e : xs = l.map oT) (hl : l.length ≤ 31) {R : List Nat} (hR : isort ((reachI (kinds l) 8 (if khas (kinds l) 1 = true then [1] else []) []).filter fun id => decide (v ∈ pathL id)) = R) : Ts.Pure Try.prog 12 [.sl 13 own xs, mT v] (.sl 1 .no (R.map mT)) := by
  refine Pure.weak (us := [.sl 13 .no (l.map oT), mT v]) ?_ (wk2 (by rw [e]; exact .own _ _ _) (.refl _))
  rw [← hR, ← reachI_eq, ← srtL_isort]; exact walk_Within hl
def ob0 (id : Nat) (k : Int) (h : id < 18446744073709551616) : OB := ⟨id, k, .int .u8 0, .nilsl, .nilsl, .nilsl, .nilsl, .int .i64 0, .int .i64 0, .int .i64 0, .nilsl, .nilsl, .nilsl, h, rfl⟩
theorem c_begun : Ts.Pure Try.prog 7 [] (.bool true) := by
  have h1 := reachE (own := .full) (l := [ob0 67 2 (by omega), ob0 1 1 (by omega), ob0 6600 2 (by omega)]) (R := [1, 67]) rfl (by simp) (by decide)
  have h2 := withinE (own := .full) (l := [ob0 67 2 (by omega), ob0 1 1 (by omega), ob0 6600 2 (by omega)]) (v := 67) (R := [67]) rfl (by simp) (by decide)
  have n1 : ([1, 67] : List Nat).length = 2 := rfl
  have n2 : ([67] : List Nat).length = 1 := rfl
  intro off
  refine Bq (N := 30) (rs := [.tmp 0]) hG Try.func7 rfl rfl rfl rfl rfl ?_
  repeat' (first
    | ((show AL _ _ _ _ _ _ _ _; refine Ah Y ?_); (first
      | (show AOp _ _ ⟨_, .move _, _, _, _, _⟩ _ _ _; refine Ar hG Y Y ?_)
      | (show AOp _ _ ⟨_, .assign _, _, _, _, _⟩ _ _ _; refine A7 hG Y Y ?_)
      | (show AOp _ _ ⟨_, .call ⟨.builtin .len, _, _⟩, _, _, _, _⟩ _ _ _; first | refine Br hG Y Y Y Y ?_ | refine B6 hG Y Y Y Y Y ?_)
      | (show AOp _ _ ⟨_, .binOp _ _ _ _ _, _, _, _, _⟩ _ _ _; first | refine Aw hG Y Y Y Y Y (by omega) ?_ | refine Av hG Y Y Y Y Y (by omega) ?_ | (refine Am hG Y Y Y Y Y (fun h => ?_) (fun h => ?_)))
      | (show AOp _ _ ⟨_, .load _ _, _, _, _, _⟩ _ _ _; first | refine Al (α := UInt16) 0 hG Y Y Y Y (by omega) Y ?_ | refine Al (α := UInt16) 1 hG Y Y Y Y (by omega) Y ?_ | refine A0 hG Y Y Y ?_ | refine Bg 0 hG Y Y Y Y ?_)
      | (show AOp _ _ ⟨_, .indexAddr _ _ _, _, _, _, _⟩ _ _ _; first | refine A3 hG Y Y Y Y Y Y Y (by omega) ?_ | refine r_idx0 hG Y Y Y Y Y Y Y ?_ | refine A1 hG Y Y Y Y Y Y Y (by omega) ?_ | refine Az hG Y Y Y Y Y Y Y (by omega) ?_ | refine Bb hG Y Y ?_)
      | (show AOp _ _ ⟨_, .pick _ _ _, _, _, _, _⟩ _ _ _; refine Ba hG Y Y Y ?_)
      | (show AOp _ _ ⟨_, .buildSlice _ _ _, _, _, _, _⟩ _ _ _; first | refine r_mk (sz := 13) hG Y Y Y Y Y Y Y ?_)
      | (show AOp _ _ ⟨_, .build _ _, _, _, _, _⟩ _ _ _; refine r_build hG Y Y Y Y Y ?_)
      | (show AOp _ _ ⟨_, .call ⟨.value _, _, _⟩, _, _, _, _⟩ _ _ _; first | refine Bl Y Y Y Y Y (by first | (apply h1 <;> (first | assumption | omega | exact A2 _ _ | exact Bc _ | exact A9 _ _ | exact Bi _ | rfl | (simp; omega))) | fail) ?_ | refine Bl Y Y Y Y Y (by first | (apply h2 <;> (first | assumption | omega | exact A2 _ _ | exact Bc _ | exact A9 _ _ | exact Bi _ | rfl | (simp; omega))) | fail) ?_ | fail)
      | refine r_q hG Y Y Y ?_))
    | (show AL _ _ _ _ _ _ _ _; first | refine Bj Y Y Y ?_ | (refine At ?_; first | show AW _ _ _ _ _ _ | show ∃ x', _ < _ ∧ _)) | (show AW _ _ (.seq _ _) _ _ _; refine Ak ?_; intro Q1) | (show AW _ _ (.region _ _ false) _ _ _; refine Ae ?_; intro O1) | (show AW _ _ (.ret) _ _ _; refine Ax ?_; try dsimp only [Au, Aa, A4, Af]) | fail)
  all_goals first
    | exact Bz (Bp rfl Bn) (.refl _) rfl
    | (exfalso; revert h; decide)
theorem law_object {id : Nat} {k : Int} (h : id < 18446744073709551616) : Ts.Pure Try.prog 14 [mT id, .int .i64 k] (oT (ob0 id k h)) := by
  intro off
  refine Bq (N := 8) (rs := [.cell 4 40]) hG Try.func14 rfl rfl rfl rfl rfl ?_
  repeat' (first
    | ((show AL _ _ _ _ _ _ _ _; refine Ah Y ?_); (first
      | (show AOp _ _ ⟨_, .move _, _, _, _, _⟩ _ _ _; refine Ar hG Y Y ?_)
      | (show AOp _ _ ⟨_, .build _ _, _, _, _, _⟩ _ _ _; refine r_build hG Y Y Y Y Y ?_)
      | (show AOp _ _ ⟨_, .alloc _, _, _, _, _⟩ _ _ _; refine B8 hG Y Y (fun i => ?_))
      | (show AOp _ _ ⟨_, .store _ _ _, _, _, _, _⟩ _ _ _; first | refine A5 (α := UInt16) 0 hG Y Y Y hT_cells hT_sc Y Y (by first | omega | (simp only [Array.size_setIfInBounds]; omega)) ?_ | refine A5 (α := UInt16) 1 hG Y Y Y hT_cells hT_sc Y Y (by first | omega | (simp only [Array.size_setIfInBounds]; omega)) ?_ | refine Bk 0 hG Y Y Y Y Y Y Y ?_ | refine Bk 1 hG Y Y Y Y Y Y Y ?_)
      | refine r_q hG Y Y Y ?_))
    | (show AL _ _ _ _ _ _ _ _; first | refine Bj Y Y Y ?_ | (refine At ?_; first | show AW _ _ _ _ _ _ | show ∃ x', _ < _ ∧ _)) | (show AW _ _ (.seq _ _) _ _ _; refine Ak ?_; intro Q1) | (show AW _ _ (.region _ _ false) _ _ _; refine Ae ?_; intro O1) | (show AW _ _ (.ret) _ _ _; refine Ax ?_; try dsimp only [Au, Aa, A4, Af]) | fail)
  exact Bz (res_cell 0 rfl rfl rfl Bn) (.refl _) rfl
end Go.Proofs.Ytmckbfdklcmogaa
namespace Go.Proofs.Ytmckbfdklcmogaa
open Go.Ts
set_option linter.unusedSimpArgs false
set_option linter.unusedVariables false
attribute [local irreducible] Go.Ts.AW Go.Ts.AOps Go.Ts.AL Go.Ts.AOp Go.Ts.ACalls Go.Ts.DL Go.Ts.DQ0 Go.Ts.EL
theorem reachN : Ts.Pure Try.prog 10 [.nilsl] (.sl 1 .no (([] : List Nat).map mT)) := by
  refine Pure.weak (us := [.sl 13 .no (([] : List OB).map oT)]) ?_ (wk1 (.nil 13))
  exact reachE rfl (by simp) (by decide)
abbrev wfL : List OB := [ob0 4226 2 (by omega), ob0 66 1 (by omega), ob0 65 2 (by omega), ob0 1 1 (by omega), ob0 4161 2 (by omega), ob0 4225 1 (by omega), ob0 4289 2 (by omega), ob0 64 2 (by omega), ob0 0 1 (by omega)]
set_option maxRecDepth 4000 in
theorem wf_r : reachI (kinds wfL) 8 (if khas (kinds wfL) 1 = true then [1] else []) [] = [1, 65, 66, 4225, 4226] := by decide +kernel
theorem walkForms_pure : Ts.Pure Try.prog 5 [] (.bool true) := by
  have h0 := c_begun
  have h1 := law_object (id := 1) (k := 1) (by omega)
  have h2 := law_object (id := 4226) (k := 2) (by omega)
  have h3 := law_object (id := 66) (k := 1) (by omega)
  have h4 := law_object (id := 65) (k := 2) (by omega)
  have h5 := law_object (id := 4161) (k := 2) (by omega)
  have h6 := law_object (id := 4225) (k := 1) (by omega)
  have h7 := law_object (id := 4289) (k := 2) (by omega)
  have h8 := law_object (id := 64) (k := 2) (by omega)
  have h9 := law_object (id := 0) (k := 1) (by omega)
  have h10 := law_object (id := 1) (k := 2) (by omega)
  have g1 := reachE (own := .full) (l := wfL) (R := [1, 65, 66, 4225, 4226]) rfl (by simp) wf_r
  have g2 := withinE (own := .full) (l := wfL) (v := 66) (R := [66, 4225, 4226]) rfl (by simp) (by rw [wf_r]; decide)
  have g3 := withinE (own := .full) (l := wfL) (v := 4161) (R := []) rfl (by simp) (by rw [wf_r]; decide)
  have g4 := reachN
  have g5 := reachE (own := .no) (l := wfL.take 3) (R := []) rfl (by simp) (by decide)
  have g6 := reachE (own := .full) (l := [ob0 1 2 (by omega)]) (R := [1]) rfl (by simp) (by decide)
  have s1 := ref_SameIDs (a := [1, 65, 66, 4225, 4226]) (b := [1, 65, 66, 4225, 4226]) (idsT_map .no _) (idsT_map .full _) (by simp) (by simp)
  have s2 := ref_SameIDs (a := [66, 4225, 4226]) (b := [66, 4225, 4226]) (idsT_map .no _) (idsT_map .full _) (by simp) (by simp)
  rw [decide_eq_true rfl] at s1 s2
  have n1 : ([] : List Nat).length = 0 := rfl
  have n2 : ([1] : List Nat).length = 1 := rfl
  intro off
  refine Bq (N := 51) (rs := [.tmp 0]) hG Try.func5 rfl rfl rfl rfl rfl ?_
  repeat' (first
    | ((first | (show AL _ _ _ _ _ _ _ _; refine Ah Y ?_) | (show DL _ _ _ _ _ _ _; refine' A8 Y Y (fun K kk => ?_) ?_; try (show Go.Ts.T; rotate_left))); (first
      | (show AOp _ _ ⟨_, .move _, _, _, _, _⟩ _ _ _; refine Ar hG Y Y ?_)
      | (show AOp _ _ ⟨_, .assign _, _, _, _, _⟩ _ _ _; refine A7 hG Y Y ?_)
      | (show AOp _ _ ⟨_, .call ⟨.builtin .len, _, _⟩, _, _, _, _⟩ _ _ _; first | refine Br hG Y Y Y Y ?_ | refine B6 hG Y Y Y Y Y ?_)
      | (show AOp _ _ ⟨_, .binOp _ _ _ _ _, _, _, _, _⟩ _ _ _; first | refine Aw hG Y Y Y Y Y (by omega) ?_ | refine Av hG Y Y Y Y Y (by omega) ?_ | ((fail_if_success have := kk); refine Am hG Y Y Y Y Y (fun h => ?_) (fun h => ?_)))
      | (show AOp _ _ ⟨_, .load _ _, _, _, _, _⟩ _ _ _; first | refine Al (α := UInt16) 0 hG Y Y Y Y (by omega) Y ?_ | refine Al (α := UInt16) 1 hG Y Y Y Y (by omega) Y ?_ | refine Bg 0 hG Y Y Y Y ?_ | refine Bg 1 hG Y Y Y Y ?_)
      | (show AOp _ _ ⟨_, .slice _ _ _ _ _, _, _, _, _⟩ _ _ _; first | refine r_sl_hin hG Y Y Y Y Y Y Y (by omega) ?_ | refine r_sl_hi hG Y Y Y Y Y Y Y (by omega) ?_ | refine op_cut0 hG Y Y Y Y Y Y Y Y Y Y ?_ | refine r_sl hG Y Y ?_)
      | (show AOp _ _ ⟨_, .pick _ _ _, _, _, _, _⟩ _ _ _; refine Ba hG Y Y Y ?_)
      | (show AOp _ _ ⟨_, .unOp _ _ _, _, _, _, _⟩ _ _ _; refine Bo hG Y Y Y ?_)
      | (show AOp _ _ ⟨_, .buildSlice _ _ _, _, _, _, _⟩ _ _ _; first | refine r_mk (sz := 1) hG Y Y Y Y Y Y Y ?_ | refine r_mk (sz := 13) hG Y Y Y Y Y Y Y ?_)
      | (show AOp _ _ ⟨_, .alloc _, _, _, _, _⟩ _ _ _; refine B8 hG Y Y (fun i => ?_))
      | (show AOp _ _ ⟨_, .store _ _ _, _, _, _, _⟩ _ _ _; first | refine A5 (α := UInt16) 0 hG Y Y Y hT_cells hT_sc Y Y (by first | omega | (simp only [Array.size_setIfInBounds]; omega)) ?_ | refine A5 (α := UInt16) 1 hG Y Y Y hT_cells hT_sc Y Y (by first | omega | (simp only [Array.size_setIfInBounds]; omega)) ?_ | refine Bk 0 hG Y Y Y Y Y Y Y ?_ | refine Bk 1 hG Y Y Y Y Y Y Y ?_)
      | (show AOp _ _ ⟨_, .call ⟨.value _, _, _⟩, _, _, _, _⟩ _ _ _; first | refine Bl Y Y Y Y Y (by first | (apply h0 <;> (first | assumption | omega | exact A2 _ _ | exact Bc _ | exact A9 _ _ | exact Bi _ | rfl | (simp; omega))) | fail) ?_ | refine Bl Y Y Y Y Y (by first | (apply h1 <;> (first | assumption | omega | exact A2 _ _ | exact Bc _ | exact A9 _ _ | exact Bi _ | rfl | (simp; omega))) | fail) ?_ | refine Bl Y Y Y Y Y (by first | (apply h2 <;> (first | assumption | omega | exact A2 _ _ | exact Bc _ | exact A9 _ _ | exact Bi _ | rfl | (simp; omega))) | fail) ?_ | refine Bl Y Y Y Y Y (by first | (apply h3 <;> (first | assumption | omega | exact A2 _ _ | exact Bc _ | exact A9 _ _ | exact Bi _ | rfl | (simp; omega))) | fail) ?_ | refine Bl Y Y Y Y Y (by first | (apply h4 <;> (first | assumption | omega | exact A2 _ _ | exact Bc _ | exact A9 _ _ | exact Bi _ | rfl | (simp; omega))) | fail) ?_ | refine Bl Y Y Y Y Y (by first | (apply h5 <;> (first | assumption | omega | exact A2 _ _ | exact Bc _ | exact A9 _ _ | exact Bi _ | rfl | (simp; omega))) | fail) ?_ | refine Bl Y Y Y Y Y (by first | (apply h6 <;> (first | assumption | omega | exact A2 _ _ | exact Bc _ | exact A9 _ _ | exact Bi _ | rfl | (simp; omega))) | fail) ?_ | refine Bl Y Y Y Y Y (by first | (apply h7 <;> (first | assumption | omega | exact A2 _ _ | exact Bc _ | exact A9 _ _ | exact Bi _ | rfl | (simp; omega))) | fail) ?_ | refine Bl Y Y Y Y Y (by first | (apply h8 <;> (first | assumption | omega | exact A2 _ _ | exact Bc _ | exact A9 _ _ | exact Bi _ | rfl | (simp; omega))) | fail) ?_ | refine Bl Y Y Y Y Y (by first | (apply h9 <;> (first | assumption | omega | exact A2 _ _ | exact Bc _ | exact A9 _ _ | exact Bi _ | rfl | (simp; omega))) | fail) ?_ | refine Bl Y Y Y Y Y (by first | (apply h10 <;> (first | assumption | omega | exact A2 _ _ | exact Bc _ | exact A9 _ _ | exact Bi _ | rfl | (simp; omega))) | fail) ?_ | refine Bl Y Y Y Y Y (by first | (apply g1 <;> (first | assumption | omega | exact A2 _ _ | exact Bc _ | exact A9 _ _ | exact Bi _ | rfl | (simp; omega))) | fail) ?_ | refine Bl Y Y Y Y Y (by first | (apply g2 <;> (first | assumption | omega | exact A2 _ _ | exact Bc _ | exact A9 _ _ | exact Bi _ | rfl | (simp; omega))) | fail) ?_ | refine Bl Y Y Y Y Y (by first | (apply g3 <;> (first | assumption | omega | exact A2 _ _ | exact Bc _ | exact A9 _ _ | exact Bi _ | rfl | (simp; omega))) | fail) ?_ | refine Bl Y Y Y Y Y (by first | (apply g4 <;> (first | assumption | omega | exact A2 _ _ | exact Bc _ | exact A9 _ _ | exact Bi _ | rfl | (simp; omega))) | fail) ?_ | refine Bl Y Y Y Y Y (by first | (apply g5 <;> (first | assumption | omega | exact A2 _ _ | exact Bc _ | exact A9 _ _ | exact Bi _ | rfl | (simp; omega))) | fail) ?_ | refine Bl Y Y Y Y Y (by first | (apply g6 <;> (first | assumption | omega | exact A2 _ _ | exact Bc _ | exact A9 _ _ | exact Bi _ | rfl | (simp; omega))) | fail) ?_ | refine Bl Y Y Y Y Y (by first | (apply s1 <;> (first | assumption | omega | exact A2 _ _ | exact Bc _ | exact A9 _ _ | exact Bi _ | rfl | (simp; omega))) | fail) ?_ | refine Bl Y Y Y Y Y (by first | (apply s2 <;> (first | assumption | omega | exact A2 _ _ | exact Bc _ | exact A9 _ _ | exact Bi _ | rfl | (simp; omega))) | fail) ?_ | fail)
      | refine r_q hG Y Y Y ?_); try exact kk)
    | (show AL _ _ _ _ _ _ _ _; first | refine Bj Y Y Y ?_ | (refine At ?_; first | show AW _ _ _ _ _ _ | show ∃ x', _ < _ ∧ _)) | (show AW _ _ (.seq _ _) _ _ _; refine Ak ?_; intro Q1) | (show AW _ _ (.region _ _ false) _ _ _; refine Ae ?_; intro O1) | (show AW _ _ (.cond _ _ _) _ _ _; first | refine Aq Y ?_ | refine Ap Y ?_ | refine Bf Y (fun h => ?_) (fun h => ?_)) | (show AW _ _ (.skip) _ _ _; refine Aj ?_; first | show AW _ _ _ _ _ _ | show ∃ x', _ < _ ∧ _) | (show AW _ _ (.ret) _ _ _; refine Ax ?_; try dsimp only [Au, Aa, A4, Af])
    | (show DL _ _ _ _ _ _ _; refine Bu Y Y (fun K kt kf => Am hG Y Y Y Y Y kt kf) (fun h => ?_) (fun h => ?_))
    | (show DL _ _ _ _ _ _ _; refine Bv Y Y Y ?_) | (show DL _ _ _ _ _ _ _; refine Be ?_; first | show AW _ _ _ _ _ _ | show ∃ x', _ < _ ∧ _) | (show AW _ _ (.region _ _ true) _ _ _; refine Ay mix (by kernel_rfl) ?_; intro O1) | fail)
  exact Bz (Bp rfl Bn) (.refl _) rfl
theorem walkForms_law (_W : World) : ACalls Try.prog 5 [] σ0 (fun r _ => r = .bool true) :=
  (walkForms_pure (fun _ _ => False)).mono fun _ _ h => h.1
end Go.Proofs.Ytmckbfdklcmogaa
