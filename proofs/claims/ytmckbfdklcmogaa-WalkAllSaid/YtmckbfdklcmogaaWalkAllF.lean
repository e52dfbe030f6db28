/- Part of the proof of the law WalkAll: the texts WD, WE, WP, TsJ, WF, WG, WI, WJ. No conditions. -/
import Derived.Test.YtmckbfdklcmogaaWalkAllE
set_option linter.unusedSimpArgs false
set_option linter.unusedVariables false
namespace Go.Ts
theorem ret_pureE {G : Nat → Option TI} {σ : St} {a : Env} {rs : List ResultVar} {ts : List T} {r : T} (h : ResRs G a σ rs ts) (hw : Wk (tup1 ts) r) (hnx : σ.nx = none) : retA G rs (fun u σ' => u = r ∧ σ' = ⟨[], [], σ.off, none⟩) .normal a σ := Bu h hw hnx
end Go.Ts
namespace Go.Proofs.Ytmckbfdklcmogaa
open Go.Ts
set_option linter.unusedSimpArgs false
set_option linter.unusedVariables false
set_option linter.unnecessarySimpa false
attribute [local irreducible] Go.Ts.AW Go.Ts.AOps Go.Ts.AL Go.Ts.AOp Go.Ts.ACalls Go.Ts.DL Go.Ts.DQ0 Go.Ts.EL
def kstep (m : List (Nat × Int)) (o : OB) : List (Nat × Int) := if (nm 6 o.id).isSome = true ∧ klook m o.id ≠ 1 then kset m o.id o.kind else m
def kinds (l : List OB) : List (Nat × Int) := l.foldl kstep []
theorem kinds_succ {l : List OB} {i : Nat} (h : i < l.length) : kinds (l.take (i + 1)) = kstep (kinds (l.take i)) (l.getD i default) := by
  unfold kinds
  rw [List.take_add_one, List.foldl_append]
  simp [h, List.getD]
theorem kset_len (m : List (Nat × Int)) (k : Nat) (v : Int) : (kset m k v).length ≤ m.length + 1 := by
  unfold kset; split <;> simp
theorem kinds_len (l : List OB) : (kinds l).length ≤ l.length := by
  unfold kinds
  have : ∀ (l : List OB) (m : List (Nat × Int)), (l.foldl kstep m).length ≤ m.length + l.length := by
    intro l
    induction l with
    | nil => intro m; simp
    | cons o l ih =>
      intro m
      have h := ih (kstep m o)
      have h2 : (kstep m o).length ≤ m.length + 1 := by
        unfold kstep; split
        · exact kset_len _ _ _
        · omega
      simp only [List.foldl_cons, List.length_cons]; omega
  simpa using this l []
theorem kinds_lt (l : List OB) : ∀ p ∈ kinds l, p.1 < 18446744073709551616 := by
  unfold kinds
  have : ∀ (l : List OB) (m : List (Nat × Int)), (∀ p ∈ m, p.1 < 18446744073709551616) → ∀ p ∈ l.foldl kstep m, p.1 < 18446744073709551616 := by
    intro l
    induction l with
    | nil => intro m hm; exact hm
    | cons o l ih =>
      intro m hm
      refine ih _ ?_
      unfold kstep; split
      · intro p hp
        unfold kset at hp
        split at hp
        · rcases List.mem_or_eq_of_mem_set hp with h | h
          · exact hm p h
          · rw [h]; exact o.hid
        · rcases List.mem_append.1 hp with h | h
          · exact hm p h
          · rw [List.mem_singleton.1 h]; exact o.hid
      · exact hm
  exact this l [] (by simp)
abbrev n0T : T := .sl 1 .no []
theorem ins0 : Ts.Pure Try.prog 33 [n0T, .int .i64 0, .int .i64 0] (.tup []) := by
  intro off
  refine Br (N := 49) (rs := []) hG Try.func33 rfl rfl rfl rfl rfl ?_
  repeat' (first
    | ((first | (show AL _ _ _ _ _ _ _ _; refine Ag Y ?_) | (show DL _ _ _ _ _ _ _; refine' A8 Y Y (fun K kk => ?_) ?_; try (show Go.Ts.T; rotate_left))); (first
      | refine Aq hG Y Y ?_
      | refine A5 hG Y Y ?_
      | (show AOp _ _ ⟨_, .binOp .add _ _ _ _, _, _, _, _⟩ _ _ _; first | refine Ab hG Y Y Y Y Y (by omega) ?_)
      | (show AOp _ _ ⟨_, .binOp .sub _ _ _ _, _, _, _, _⟩ _ _ _; first | refine Ab hG Y Y Y Y Y (by omega) ?_)
      | (show AOp _ _ ⟨_, .binOp _ _ _ _ _, _, _, _, _⟩ _ _ _; first | refine At hG Y Y Y Y Y (by omega) ?_ | refine Au hG Y Y Y Y Y (by omega) ?_ | ((fail_if_success have := kk); refine Am hG Y Y Y Y Y (fun h => ?_) (fun h => ?_)))
      | (show AOp _ _ ⟨_, .load _ _, _, _, _, _⟩ _ _ _; first | refine Ay hG Y Y Y ?_ | refine Bg 0 hG Y Y Y Y ?_)
      | (show AOp _ _ ⟨_, .indexAddr _ _ _, _, _, _, _⟩ _ _ _; first | refine A0 hG Y Y Y Y Y Y Y (by omega) ?_ | refine Az hG Y Y Y Y Y Y Y (by omega) ?_ | refine A9 hG Y Y ?_)
      | refine A6 hG Y Y Y ?_
      | (show AOp _ _ ⟨_, .store _ _ _, _, _, _, _⟩ _ _ _; first | refine Bv 0 hG Y Y Y Y Y Y Y ?_)
      | refine r_q hG Y Y Y ?_); try exact kk)
    | (show AL _ _ _ _ _ _ _ _; first | refine Bk Y Y Y ?_ | (refine Ar ?_; first | show AW _ _ _ _ _ _ | show ∃ x', _ < _ ∧ _)) | (show AW _ _ (.seq _ _) _ _ _; refine Ai ?_; intro Q1) | (show AW _ _ (.region _ _ false) _ _ _; refine Ad ?_; intro O1) | (show AW _ _ (.cond _ _ _) _ _ _; first | refine Ao Y ?_ | refine Ap Y ?_) | (show AW _ _ (.skip) _ _ _; refine Aj ?_; first | show AW _ _ _ _ _ _ | show ∃ x', _ < _ ∧ _) | (show AW _ _ (.block _ _) _ _ _; refine Ae ?_; intro Q1) | (show AW _ _ (.exit _) _ _ _; refine Al ?_; first | show AW _ _ _ _ _ _ | show ∃ x', _ < _ ∧ _) | (show AW _ _ (.ret) _ _ _; refine Aw ?_; try dsimp only [Ax, Aa, A2, Af])
    | (show DL _ _ _ _ _ _ _; refine Bx Y Y (fun K kt kf => Am hG Y Y Y Y Y kt kf) (fun h => ?_) (fun h => ?_))
    | (show DL _ _ _ _ _ _ _; refine By Y Y Y ?_) | (show DL _ _ _ _ _ _ _; refine Be ?_; first | show AW _ _ _ _ _ _ | show ∃ x', _ < _ ∧ _) | (show AW _ _ (.region _ _ true) _ _ _; refine A3 mix (by kernel_rfl) ?_; intro O1) | fail)
  refine Ch (X := Unit) (fun _ => [(2, .int .i64 0), (6, .int .i64 1)]) (fun _ => ⟨[], [], off, none⟩) (fun _ => 0) () (by repeat (first | exact .nil _ | refine .cons rfl ?_)) (.refl _) ?_
  intro _
  repeat' (first
    | ((first | (show AL _ _ _ _ _ _ _ _; refine Ag Y ?_) | (show DL _ _ _ _ _ _ _; refine' A8 Y Y (fun K kk => ?_) ?_; try (show Go.Ts.T; rotate_left))); (first
      | refine Aq hG Y Y ?_
      | refine A5 hG Y Y ?_
      | (show AOp _ _ ⟨_, .binOp .add _ _ _ _, _, _, _, _⟩ _ _ _; first | refine Ab hG Y Y Y Y Y (by omega) ?_)
      | (show AOp _ _ ⟨_, .binOp .sub _ _ _ _, _, _, _, _⟩ _ _ _; first | refine Ab hG Y Y Y Y Y (by omega) ?_)
      | (show AOp _ _ ⟨_, .binOp _ _ _ _ _, _, _, _, _⟩ _ _ _; first | refine At hG Y Y Y Y Y (by omega) ?_ | refine Au hG Y Y Y Y Y (by omega) ?_ | ((fail_if_success have := kk); refine Am hG Y Y Y Y Y (fun h => ?_) (fun h => ?_)))
      | (show AOp _ _ ⟨_, .load _ _, _, _, _, _⟩ _ _ _; first | refine Ay hG Y Y Y ?_ | refine Bg 0 hG Y Y Y Y ?_)
      | (show AOp _ _ ⟨_, .indexAddr _ _ _, _, _, _, _⟩ _ _ _; first | refine A0 hG Y Y Y Y Y Y Y (by omega) ?_ | refine Az hG Y Y Y Y Y Y Y (by omega) ?_ | refine A9 hG Y Y ?_)
      | refine A6 hG Y Y Y ?_
      | (show AOp _ _ ⟨_, .store _ _ _, _, _, _, _⟩ _ _ _; first | refine Bv 0 hG Y Y Y Y Y Y Y ?_)
      | refine r_q hG Y Y Y ?_); try exact kk)
    | (show AL _ _ _ _ _ _ _ _; first | refine Bk Y Y Y ?_ | (refine Ar ?_; first | show AW _ _ _ _ _ _ | show ∃ x', _ < _ ∧ _)) | (show AW _ _ (.seq _ _) _ _ _; refine Ai ?_; intro Q1) | (show AW _ _ (.region _ _ false) _ _ _; refine Ad ?_; intro O1) | (show AW _ _ (.cond _ _ _) _ _ _; first | refine Ao Y ?_ | refine Ap Y ?_) | (show AW _ _ (.skip) _ _ _; refine Aj ?_; first | show AW _ _ _ _ _ _ | show ∃ x', _ < _ ∧ _) | (show AW _ _ (.block _ _) _ _ _; refine Ae ?_; intro Q1) | (show AW _ _ (.exit _) _ _ _; refine Al ?_; first | show AW _ _ _ _ _ _ | show ∃ x', _ < _ ∧ _) | (show AW _ _ (.ret) _ _ _; refine Aw ?_; try dsimp only [Ax, Aa, A2, Af])
    | (show DL _ _ _ _ _ _ _; refine Bx Y Y (fun K kt kf => Am hG Y Y Y Y Y kt kf) (fun h => ?_) (fun h => ?_))
    | (show DL _ _ _ _ _ _ _; refine By Y Y Y ?_) | (show DL _ _ _ _ _ _ _; refine Be ?_; first | show AW _ _ _ _ _ _ | show ∃ x', _ < _ ∧ _) | (show AW _ _ (.region _ _ true) _ _ _; refine A3 mix (by kernel_rfl) ?_; intro O1) | fail)
  refine Al ?_
  exact ret_pureE Bl (.refl _) rfl
theorem pdq0 : Ts.Pure Try.prog 29 [n0T, .int .i64 0, .int .i64 0, .int .i64 0] (.tup []) := by
  have h := ins0
  intro off
  refine Br (N := 134) (rs := []) hG Try.func29 rfl rfl rfl rfl rfl ?_
  repeat' (first
    | ((first | (show AL _ _ _ _ _ _ _ _; refine Ag Y ?_) | (show DL _ _ _ _ _ _ _; refine' A8 Y Y (fun K kk => ?_) ?_; try (show Go.Ts.T; rotate_left))); (first
      | refine Aq hG Y Y ?_
      | refine A5 hG Y Y ?_
      | (show AOp _ _ ⟨_, .binOp .add _ _ _ _, _, _, _, _⟩ _ _ _; first | refine Ab hG Y Y Y Y Y (by omega) ?_)
      | (show AOp _ _ ⟨_, .binOp .sub _ _ _ _, _, _, _, _⟩ _ _ _; first | refine Ab hG Y Y Y Y Y (by omega) ?_)
      | (show AOp _ _ ⟨_, .binOp _ _ _ _ _, _, _, _, _⟩ _ _ _; first | refine At hG Y Y Y Y Y (by omega) ?_ | refine Au hG Y Y Y Y Y (by omega) ?_ | ((fail_if_success have := kk); refine Am hG Y Y Y Y Y (fun h => ?_) (fun h => ?_)) | refine Bw hG Y Y Y ?_)
      | (show AOp _ _ ⟨_, .load _ _, _, _, _, _⟩ _ _ _; first | refine Ay hG Y Y Y ?_ | refine Bg 0 hG Y Y Y Y ?_)
      | (show AOp _ _ ⟨_, .indexAddr _ _ _, _, _, _, _⟩ _ _ _; first | refine A0 hG Y Y Y Y Y Y Y (by omega) ?_ | refine Az hG Y Y Y Y Y Y Y (by omega) ?_ | refine A9 hG Y Y ?_)
      | refine A6 hG Y Y Y ?_
      | refine Bs hG Y Y Y ?_
      | refine r_q hG Y Y Y ?_); try exact kk)
    | (show AL _ _ _ _ _ _ _ _; first | refine Bk Y Y Y ?_ | (refine Ar ?_; first | show AW _ _ _ _ _ _ | show ∃ x', _ < _ ∧ _)) | (show AW _ _ (.seq _ _) _ _ _; refine Ai ?_; intro Q1) | (show AW _ _ (.region _ _ false) _ _ _; refine Ad ?_; intro O1) | (show AW _ _ (.cond _ _ _) _ _ _; first | refine Ao Y ?_ | refine Ap Y ?_) | (show AW _ _ (.skip) _ _ _; refine Aj ?_; first | show AW _ _ _ _ _ _ | show ∃ x', _ < _ ∧ _) | (show AW _ _ (.block _ _) _ _ _; refine Ae ?_; intro Q1) | (show AW _ _ (.exit _) _ _ _; refine Al ?_; first | show AW _ _ _ _ _ _ | show ∃ x', _ < _ ∧ _) | (show AW _ _ (.ret) _ _ _; refine Aw ?_; try dsimp only [Ax, Aa, A2, Af])
    | (show DL _ _ _ _ _ _ _; refine Bx Y Y (fun K kt kf => Am hG Y Y Y Y Y kt kf) (fun h => ?_) (fun h => ?_))
    | (show DL _ _ _ _ _ _ _; refine By Y Y Y ?_) | (show DL _ _ _ _ _ _ _; refine Be ?_; first | show AW _ _ _ _ _ _ | show ∃ x', _ < _ ∧ _) | (show AW _ _ (.region _ _ true) _ _ _; refine A3 mix (by kernel_rfl) ?_; intro O1) | fail)
  refine Ch (X := Unit) (fun _ => [(0, n0T), (1, .int .i64 0), (2, .int .i64 0), (3, .int .i64 0)]) (fun _ => ⟨[], [], off, none⟩) (fun _ => 0) () (by repeat (first | exact .nil _ | refine .cons rfl ?_)) (.refl _) ?_
  intro _
  repeat' (first
    | ((first | (show AL _ _ _ _ _ _ _ _; refine Ag Y ?_) | (show DL _ _ _ _ _ _ _; refine' A8 Y Y (fun K kk => ?_) ?_; try (show Go.Ts.T; rotate_left))); (first
      | refine Aq hG Y Y ?_
      | refine A5 hG Y Y ?_
      | (show AOp _ _ ⟨_, .binOp .add _ _ _ _, _, _, _, _⟩ _ _ _; first | refine Ab hG Y Y Y Y Y (by omega) ?_)
      | (show AOp _ _ ⟨_, .binOp .sub _ _ _ _, _, _, _, _⟩ _ _ _; first | refine Ab hG Y Y Y Y Y (by omega) ?_)
      | (show AOp _ _ ⟨_, .binOp _ _ _ _ _, _, _, _, _⟩ _ _ _; first | refine At hG Y Y Y Y Y (by omega) ?_ | refine Au hG Y Y Y Y Y (by omega) ?_ | ((fail_if_success have := kk); refine Am hG Y Y Y Y Y (fun h => ?_) (fun h => ?_)) | refine Bw hG Y Y Y ?_)
      | (show AOp _ _ ⟨_, .load _ _, _, _, _, _⟩ _ _ _; first | refine Ay hG Y Y Y ?_ | refine Bg 0 hG Y Y Y Y ?_)
      | (show AOp _ _ ⟨_, .indexAddr _ _ _, _, _, _, _⟩ _ _ _; first | refine A0 hG Y Y Y Y Y Y Y (by omega) ?_ | refine Az hG Y Y Y Y Y Y Y (by omega) ?_ | refine A9 hG Y Y ?_)
      | refine A6 hG Y Y Y ?_
      | refine Bs hG Y Y Y ?_
      | (show AOp _ _ ⟨_, .call ⟨.value _, _, _⟩, _, _, _, _⟩ _ _ _; first | refine Bn Y Y Y Y Y (by first | (apply h <;> (first | assumption | omega | exact A4 _ _ | exact Bd _ | exact A7 _ _ | exact Bi _ | rfl | (simp; omega))) | fail) ?_ | fail)
      | refine r_q hG Y Y Y ?_); try exact kk)
    | (show AL _ _ _ _ _ _ _ _; first | refine Bk Y Y Y ?_ | (refine Ar ?_; first | show AW _ _ _ _ _ _ | show ∃ x', _ < _ ∧ _)) | (show AW _ _ (.seq _ _) _ _ _; refine Ai ?_; intro Q1) | (show AW _ _ (.region _ _ false) _ _ _; refine Ad ?_; intro O1) | (show AW _ _ (.cond _ _ _) _ _ _; first | refine Ao Y ?_ | refine Ap Y ?_) | (show AW _ _ (.skip) _ _ _; refine Aj ?_; first | show AW _ _ _ _ _ _ | show ∃ x', _ < _ ∧ _) | (show AW _ _ (.block _ _) _ _ _; refine Ae ?_; intro Q1) | (show AW _ _ (.exit _) _ _ _; refine Al ?_; first | show AW _ _ _ _ _ _ | show ∃ x', _ < _ ∧ _) | (show AW _ _ (.ret) _ _ _; refine Aw ?_; try dsimp only [Ax, Aa, A2, Af])
    | (show DL _ _ _ _ _ _ _; refine Bx Y Y (fun K kt kf => Am hG Y Y Y Y Y kt kf) (fun h => ?_) (fun h => ?_))
    | (show DL _ _ _ _ _ _ _; refine By Y Y Y ?_) | (show DL _ _ _ _ _ _ _; refine Be ?_; first | show AW _ _ _ _ _ _ | show ∃ x', _ < _ ∧ _) | (show AW _ _ (.region _ _ true) _ _ _; refine A3 mix (by kernel_rfl) ?_; intro O1) | fail)
  exact Bu Bl (.refl _) rfl
theorem sort0 : Ts.Pure Try.prog 19 [.nilsl] (.tup []) := by
  refine Pure.weak (us := [n0T]) ?_ (wk1 (.nil 1))
  have h := pdq0
  have h1 := bits_Len (x := 0) (by omega)
  intro off
  refine Br (N := 11) (rs := []) hG Try.func19 rfl rfl rfl rfl rfl ?_
  repeat' (first
    | ((show AL _ _ _ _ _ _ _ _; refine Ag Y ?_); (first
      | refine Aq hG Y Y ?_
      | refine A5 hG Y Y ?_
      | (show AOp _ _ ⟨_, .call ⟨.builtin .len, _, _⟩, _, _, _, _⟩ _ _ _; first | refine Bh hG Y Y Y Y ?_ | refine Bq hG Y Y Y Y Y ?_)
      | (show AOp _ _ ⟨_, .convert _ _ _, _, _, _, _⟩ _ _ _; first | refine r_cv_u64 hG Y Y Y Y Y (by omega) ?_ | refine r_cvw hG Y Y Y Y Y ?_)
      | (show AOp _ _ ⟨_, .call ⟨.value _, _, _⟩, _, _, _, _⟩ _ _ _; first | refine Bn Y Y Y Y Y (by first | (apply h <;> (first | assumption | omega | exact A4 _ _ | exact Bd _ | exact A7 _ _ | exact Bi _ | rfl | (simp; omega))) | fail) ?_ | refine Bn Y Y Y Y Y (by first | (apply h1 <;> (first | assumption | omega | exact A4 _ _ | exact Bd _ | exact A7 _ _ | exact Bi _ | rfl | (simp; omega))) | fail) ?_ | fail)
      | refine r_q hG Y Y Y ?_))
    | (show AL _ _ _ _ _ _ _ _; first | refine Bk Y Y Y ?_ | (refine Ar ?_; first | show AW _ _ _ _ _ _ | show ∃ x', _ < _ ∧ _)) | (show AW _ _ (.seq _ _) _ _ _; refine Ai ?_; intro Q1) | (show AW _ _ (.region _ _ false) _ _ _; refine Ad ?_; intro O1) | (show AW _ _ (.ret) _ _ _; refine Aw ?_; try dsimp only [Ax, Aa, A2, Af]) | fail)
  refine Ar ?_
  exact ret_pureE Bl (.refl _) rfl
theorem chunks_one : ∀ (n : Nat) (cs : List T), cs.length = n → chunks 1 n cs = cs
  | 0, [], _ => rfl
  | n + 1, c :: cs, h => by
    simp only [chunks, List.headD_cons, List.drop_succ_cons, List.drop_zero, show Nat.beq 1 1 = true from rfl, cond_true]
    rw [chunks_one n cs (by simpa using h)]
def bE : List Nat → Nat → T
  | [], _ => .nilsl
  | x :: l, i => .aref 1 i 0 (x :: l).length none
def bS (off : Nat → Nat → Prop) (k : Nat) : List Nat → Nat → St
  | [], _ => ⟨[], [k], off, none⟩
  | x :: l, i => ⟨[(i, .cells (rowT mT (x :: l).toArray))], [k], off, none⟩
theorem rowN_snoc (l : List Nat) (c : Nat) : (rowT mT l.toArray).drop 0 ++ flat [mT c] = rowT mT (l ++ [c]).toArray := by
  unfold rowT; simp [flat, Ah]
def srtL (l : List Nat) : List Nat := (Go.Sort.sort ltQ l.toArray).toList
def belowP (m : List (Nat × Int)) (lv : List Nat) (id : Nat) : Bool := decide (parN id ∈ lv) && decide (klook m (parN id) = 1)
def nextL (m : List (Nat × Int)) (lv : List Nat) : List Nat := srtL ((m.map (·.1)).filter (belowP m lv))
def reachGo (m : List (Nat × Int)) : Nat → List Nat → List Nat → List Nat
  | 0, _, out => out
  | f + 1, lv, out => if lv = [] then out else reachGo m f (nextL m lv) (out ++ lv)
def reachL (l : List OB) : List Nat := reachGo (kinds l) 8 (if khas (kinds l) 1 = true then [1] else []) []
theorem srtL_spec (l : List Nat) : (srtL l).Perm l ∧ (srtL l).Pairwise (fun x y => ¬ y < x) := by
  obtain ⟨⟨h1, _, h2⟩, h3⟩ := Go.Sort.sort_sorts ltQ ltQ_swo l.toArray
  unfold srtL
  generalize Go.Sort.sort ltQ l.toArray = s at *
  have h5 : s.size = l.length := by simpa using h1
  refine ⟨?_, ?_⟩
  · have h6 : s.toList.Perm (List.take s.size l) := by simpa [← h1] using h2
    rw [h5, List.take_length] at h6; exact h6
  · rw [List.pairwise_iff_getElem]
    intro i j hi hj hij
    have := h3 i j (Nat.zero_le _) hij (by rw [← h1]; simpa using hj)
    rw [getElem!_pos s j (by simpa using hj), getElem!_pos s i (by simpa using hi)] at this
    simpa [ltQ] using this
theorem sorted_eq : ∀ (a b : List Nat), a.Perm b → a.Pairwise (fun x y => ¬ y < x) → b.Pairwise (fun x y => ¬ y < x) → a = b
  | [], b, h, _, _ => h.nil_eq
  | x :: a, [], h, _, _ => absurd h.length_eq (by simp)
  | x :: a, y :: b, h, ha, hb => by
    obtain ⟨ha1, ha2⟩ := List.pairwise_cons.1 ha
    obtain ⟨hb1, hb2⟩ := List.pairwise_cons.1 hb
    have hxy : x = y := by
      have h1 : ¬ y < x := by
        rcases List.mem_cons.1 (h.mem_iff.2 (List.mem_cons_self : y ∈ y :: b)) with e | e
        · omega
        · exact ha1 y e
      have h2 : ¬ x < y := by
        rcases List.mem_cons.1 (h.mem_iff.1 (List.mem_cons_self : x ∈ x :: a)) with e | e
        · omega
        · exact hb1 x e
      omega
    subst hxy
    rw [sorted_eq a b (List.Perm.cons_inv h) ha2 hb2]
theorem srtL_perm {l l' : List Nat} (h : l.Perm l') : srtL l = srtL l' :=
  sorted_eq _ _ ((srtL_spec l).1.trans (h.trans (srtL_spec l').1.symm)) (srtL_spec l).2 (srtL_spec l').2
theorem srtL_len (l : List Nat) : (srtL l).length = l.length := (srtL_spec l).1.length_eq
theorem nm_mono : ∀ {k i : Nat} {l : List Nat}, nm k i = some l → nm (k + 1) i = some l
  | 0, i, l, h => by
    rw [nm] at h; split at h
    · rename_i h1; subst h1; rw [nm_one]; exact h
    · cases h
  | k + 1, i, l, h => by
    rw [nm] at h; split at h
    · rename_i h1; subst h1; rw [nm_one]; exact h
    · rename_i h1
      split at h
      · rename_i h2
        rw [nm, if_neg h1, if_pos h2]
        cases h3 : nm k (i / 64) with
        | none => rw [h3] at h; cases h
        | some l' => rw [h3] at h; rw [nm_mono h3]; exact h
      · cases h
theorem par_depth {id : Nat} {l : List Nat} (h : nm 6 (parN id) = some l) : ∃ x, nm 6 id = some (x :: l) := by
  have hp : parN id = match nm 6 id with
    | some (_ :: _) => id / 64
    | _ => 0 := rfl
  have h0 : nm 6 0 = none := by decide
  cases e : nm 6 id with
  | none => rw [e] at hp; dsimp only at hp; rw [hp, h0] at h; cases h
  | some l2 =>
    cases l2 with
    | nil => rw [e] at hp; dsimp only at hp; rw [hp, h0] at h; cases h
    | cons x l2 =>
      rw [e] at hp; dsimp only at hp
      rw [hp] at h
      have e2 := e
      rw [nm] at e2
      split at e2
      · cases e2
      · split at e2
        · cases h3 : nm 5 (id / 64) with
          | none => rw [h3] at e2; cases e2
          | some l3 =>
            rw [h3] at e2
            simp at e2
            rw [nm_mono h3] at h
            injection h with h
            exact ⟨x, by rw [← h, e2.2]⟩
        · cases e2
def keysAt (m : List (Nat × Int)) (done : List Nat) : List Nat := done.map fun j => (m.getD j default).1
theorem keys_perm {m : List (Nat × Int)} {done : List Nat} (h1 : done.Nodup) (h2 : ∀ i ∈ done, i < m.length) (h3 : done.length = m.length) : (keysAt m done).Perm (m.map (·.1)) := by
  have hp : done.Perm (List.range m.length) := by
    refine (List.perm_ext_iff_of_nodup h1 List.nodup_range).2 fun i => ?_
    rw [List.mem_range]
    refine ⟨h2 i, fun hi => ?_⟩
    by_cases hm : i ∈ done
    · exact hm
    · have := nodup_le m.length (i :: done) (List.nodup_cons.2 ⟨hm, h1⟩) fun j hj => by
        rcases List.mem_cons.1 hj with rfl | hj
        · exact hi
        · exact h2 j hj
      simp at this; omega
  have e : keysAt m (List.range m.length) = m.map (·.1) := by
    refine List.ext_getElem (by simp [keysAt]) fun i h4 h5 => ?_
    simp [keysAt] at h4
    simp [keysAt, List.getD, h4]
  rw [← e]
  exact hp.map _
structure KdX (l : List OB) where
  i : Nat
  hi : i ≤ l.length
structure RcX (m : List (Nat × Int)) (R : List Nat) where
  f : Nat
  lv : List Nat
  out : List Nat
  k : Nat
  hf : 1 ≤ f ∧ f ≤ 8
  hd : ∀ id ∈ lv, ∃ l, nm 6 id = some l ∧ l.length = 8 - f
  hl : lv.length ≤ 255
  ho : out.length ≤ (8 - f) * 255
  e : reachGo m f lv out = R
set_option maxHeartbeats 1000000 in
theorem walk_Reach {l : List OB} (hl : l.length < 256) : Ts.Pure Try.prog 10 [.sl 13 .no (l.map oT)] (.sl 1 .no ((reachL l).map mT)) := by
  obtain ⟨R, hR⟩ : ∃ R, reachL l = R := ⟨_, rfl⟩
  rw [hR]
  unfold reachL at hR
  obtain ⟨M, hM⟩ : ∃ M, kinds l = M := ⟨_, rfl⟩
  have hml : M.length ≤ 255 := by have := kinds_len l; rw [hM] at this; omega
  rw [hM] at hR
  have hlts : ∀ p ∈ M, p.1 < 18446744073709551616 := hM ▸ kinds_lt l
  intro off
  refine Br (N := 74) (rs := [.tmp 2]) hG Try.func10 rfl rfl rfl rfl rfl ?_
  repeat' (first
    | ((show AL _ _ _ _ _ _ _ _; refine Ag Y ?_); (first
      | refine Aq hG Y Y ?_
      | refine A5 hG Y Y ?_
      | (show AOp _ _ ⟨_, .call ⟨.builtin .len, _, _⟩, _, _, _, _⟩ _ _ _; first | refine Bh hG Y Y Y Y ?_ | refine Bq hG Y Y Y Y Y ?_)
      | (show AOp _ _ ⟨_, .lookup _ _ _ _, _, _, _, _⟩ _ _ _; first | refine r_lookF hG Y Y Y Y Y Y Y Y Y ?_ | refine Cq hG Y Y Y Y Y Y Y Y Y ?_ | refine Bz (n := 0) hG Y Y Y Y Y Y Y Y Y Y ?_ | refine Bz (n := 1) hG Y Y Y Y Y Y Y Y Y Y ?_)
      | (show AOp _ _ ⟨_, .mapUpdate _ _ _ _, _, _, _, _⟩ _ _ _; first | refine B7 0 hG Y Y Y Y Y Y Y Y ?_ | refine B7 1 hG Y Y Y Y Y Y Y Y ?_)
      | (show AOp _ _ ⟨_, .binOp .add _ _ _ _, _, _, _, _⟩ _ _ _; first | refine Ac hG Y Y Y Y Y (by omega) ?_ | refine Ac (m := 1) hG Y Y Y Y Y (by omega) ?_ | refine Ab hG Y Y Y Y Y (by omega) ?_)
      | (show AOp _ _ ⟨_, .binOp _ _ _ _ _, _, _, _, _⟩ _ _ _; first | refine At hG Y Y Y Y Y (by omega) ?_ | refine Au hG Y Y Y Y Y (by omega) ?_ | (refine Am hG Y Y Y Y Y (fun h => ?_) (fun h => ?_)))
      | (show AOp _ _ ⟨_, .load _ _, _, _, _, _⟩ _ _ _; first | refine Ak (α := Nat) 0 hG Y Y Y Y (by omega) Y ?_ | refine Ak (α := Nat) 1 hG Y Y Y Y (by omega) Y ?_ | refine Ay hG Y Y Y ?_ | refine Bg 0 hG Y Y Y Y ?_ | refine Bg 1 hG Y Y Y Y ?_)
      | (show AOp _ _ ⟨_, .indexAddr _ _ _, _, _, _, _⟩ _ _ _; first | refine A1 hG Y Y Y Y Y Y Y (by omega) ?_ | refine A0 hG Y Y Y Y Y Y Y (by omega) ?_ | refine Az hG Y Y Y Y Y Y Y (by omega) ?_ | refine A9 hG Y Y ?_)
      | refine A6 hG Y Y Y ?_
      | (show AOp _ _ ⟨_, .buildSlice _ _ _, _, _, _, _⟩ _ _ _; first | refine r_mk (sz := 1) hG Y Y Y Y Y Y Y ?_)
      | (show AOp _ _ ⟨_, .alloc _, _, _, _, _⟩ _ _ _; refine Ce hG Y Y (fun i => ?_))
      | (show AOp _ _ ⟨_, .store _ _ _, _, _, _, _⟩ _ _ _; first | refine Bc (α := Nat) 0 hG Y Y Y Ah Bb Y Y (by first | omega | (simp only [Array.size_setIfInBounds]; omega)) ?_ | refine Bc (α := Nat) 1 hG Y Y Y Ah Bb Y Y (by first | omega | (simp only [Array.size_setIfInBounds]; omega)) ?_ | refine Bv 0 hG Y Y Y Y Y Y Y ?_ | refine Bv 1 hG Y Y Y Y Y Y Y ?_)
      | (show AOp _ _ ⟨_, .call ⟨.builtin .append, _, _⟩, _, _, _, _⟩ _ _ _; first | refine Bo (sz := 1) (xs := []) hG Y Y Y Y Y Y Y ⟨_, Y⟩ Y Y Y Y Y Y Y (by first | omega | (simp; omega)) (fun k => ?_) | refine Bp 0 hG Y Y Y Y Y Y Y ⟨_, Y⟩ Y Y Y Y Y (by first | omega | (simp only [List.length_append, List.length_cons, List.length_nil]; omega)) (fun k => ?_) | fail)
      | refine r_q hG Y Y Y ?_))
    | (show AL _ _ _ _ _ _ _ _; first | refine Bk Y Y Y ?_ | (refine Ar ?_; first | show AW _ _ _ _ _ _ | show ∃ x', _ < _ ∧ _)) | (show AW _ _ (.seq _ _) _ _ _; refine Ai ?_; intro Q1) | (show AW _ _ (.region _ _ false) _ _ _; refine Ad ?_; intro O1) | (show AW _ _ (.cond _ _ _) _ _ _; first | refine Ao Y ?_ | refine Ap Y ?_ | refine Ba Y (fun h => ?_) (fun h => ?_)) | (show AW _ _ (.skip) _ _ _; refine Aj ?_; first | show AW _ _ _ _ _ _ | show ∃ x', _ < _ ∧ _) | (show AW _ _ (.block _ _) _ _ _; refine Ae ?_; intro Q1) | (show AW _ _ (.exit _) _ _ _; refine Al ?_; first | show AW _ _ _ _ _ _ | show ∃ x', _ < _ ∧ _) | (show AW _ _ (.goto _) _ _ _; refine Ci ?_; try dsimp only [Ax, Aa, A2, Af]) | (show AW _ _ (.ret) _ _ _; refine Aw ?_; try dsimp only [Ax, Aa, A2, Af]) | fail)
  refine aw_scope' 0 rfl (X := RcX M R) (fun x => [(3, .mro ((M.map kvT).map Prod.fst) ((M.map kvT).map Prod.snd)), (6, .sl 1 (.tok x.k) (x.out.map mT)), (7, .sl 1 .no (x.lv.map mT))]) (fun x => ⟨[], [x.k], off, none⟩) (fun x => x.f) ?_ ?_
  · clear hR
    rintro ⟨f, lv, out, k, hf, hd, hlv, ho, e⟩
    dsimp only at e ⊢
    by_cases hlv0 : lv = []
    · subst hlv0
      have n1 : ([] : List Nat).length = 0 := rfl
      have e2 : out = R := by
        rw [← e]
        obtain ⟨f, rfl⟩ : ∃ g, f = g + 1 := ⟨f - 1, by omega⟩
        simp [reachGo]
      subst e2
      repeat' (first
    | ((show AL _ _ _ _ _ _ _ _; refine Ag Y ?_); (first
      | refine Aq hG Y Y ?_
      | refine A5 hG Y Y ?_
      | (show AOp _ _ ⟨_, .call ⟨.builtin .len, _, _⟩, _, _, _, _⟩ _ _ _; first | refine Bh hG Y Y Y Y ?_ | refine Bq hG Y Y Y Y Y ?_)
      | (show AOp _ _ ⟨_, .lookup _ _ _ _, _, _, _, _⟩ _ _ _; first | refine r_lookF hG Y Y Y Y Y Y Y Y Y ?_ | refine Cq hG Y Y Y Y Y Y Y Y Y ?_ | refine Bz (n := 0) hG Y Y Y Y Y Y Y Y Y Y ?_ | refine Bz (n := 1) hG Y Y Y Y Y Y Y Y Y Y ?_)
      | (show AOp _ _ ⟨_, .mapUpdate _ _ _ _, _, _, _, _⟩ _ _ _; first | refine B7 0 hG Y Y Y Y Y Y Y Y ?_ | refine B7 1 hG Y Y Y Y Y Y Y Y ?_)
      | (show AOp _ _ ⟨_, .binOp .add _ _ _ _, _, _, _, _⟩ _ _ _; first | refine Ac hG Y Y Y Y Y (by omega) ?_ | refine Ac (m := 1) hG Y Y Y Y Y (by omega) ?_ | refine Ab hG Y Y Y Y Y (by omega) ?_)
      | (show AOp _ _ ⟨_, .binOp _ _ _ _ _, _, _, _, _⟩ _ _ _; first | refine At hG Y Y Y Y Y (by omega) ?_ | refine Au hG Y Y Y Y Y (by omega) ?_ | (refine Am hG Y Y Y Y Y (fun h => ?_) (fun h => ?_)))
      | (show AOp _ _ ⟨_, .load _ _, _, _, _, _⟩ _ _ _; first | refine Ak (α := Nat) 0 hG Y Y Y Y (by omega) Y ?_ | refine Ak (α := Nat) 1 hG Y Y Y Y (by omega) Y ?_ | refine Ay hG Y Y Y ?_ | refine Bg 0 hG Y Y Y Y ?_ | refine Bg 1 hG Y Y Y Y ?_)
      | (show AOp _ _ ⟨_, .indexAddr _ _ _, _, _, _, _⟩ _ _ _; first | refine A1 hG Y Y Y Y Y Y Y (by omega) ?_ | refine A0 hG Y Y Y Y Y Y Y (by omega) ?_ | refine Az hG Y Y Y Y Y Y Y (by omega) ?_ | refine A9 hG Y Y ?_)
      | refine A6 hG Y Y Y ?_
      | (show AOp _ _ ⟨_, .buildSlice _ _ _, _, _, _, _⟩ _ _ _; first | refine r_mk (sz := 1) hG Y Y Y Y Y Y Y ?_)
      | (show AOp _ _ ⟨_, .alloc _, _, _, _, _⟩ _ _ _; refine Ce hG Y Y (fun i => ?_))
      | (show AOp _ _ ⟨_, .store _ _ _, _, _, _, _⟩ _ _ _; first | refine Bc (α := Nat) 0 hG Y Y Y Ah Bb Y Y (by first | omega | (simp only [Array.size_setIfInBounds]; omega)) ?_ | refine Bc (α := Nat) 1 hG Y Y Y Ah Bb Y Y (by first | omega | (simp only [Array.size_setIfInBounds]; omega)) ?_ | refine Bv 0 hG Y Y Y Y Y Y Y ?_ | refine Bv 1 hG Y Y Y Y Y Y Y ?_)
      | (show AOp _ _ ⟨_, .call ⟨.builtin .append, _, _⟩, _, _, _, _⟩ _ _ _; first | refine Bo (sz := 1) (xs := []) hG Y Y Y Y Y Y Y ⟨_, Y⟩ Y Y Y Y Y Y Y (by first | omega | (simp; omega)) (fun k => ?_) | refine Bp 0 hG Y Y Y Y Y Y Y ⟨_, Y⟩ Y Y Y Y Y (by first | omega | (simp only [List.length_append, List.length_cons, List.length_nil]; omega)) (fun k => ?_) | fail)
      | refine r_q hG Y Y Y ?_))
    | (show AL _ _ _ _ _ _ _ _; first | refine Bk Y Y Y ?_ | (refine Ar ?_; first | show AW _ _ _ _ _ _ | show ∃ x', _ < _ ∧ _)) | (show AW _ _ (.seq _ _) _ _ _; refine Ai ?_; intro Q1) | (show AW _ _ (.region _ _ false) _ _ _; refine Ad ?_; intro O1) | (show AW _ _ (.cond _ _ _) _ _ _; first | refine Ao Y ?_ | refine Ap Y ?_ | refine Ba Y (fun h => ?_) (fun h => ?_)) | (show AW _ _ (.skip) _ _ _; refine Aj ?_; first | show AW _ _ _ _ _ _ | show ∃ x', _ < _ ∧ _) | (show AW _ _ (.block _ _) _ _ _; refine Ae ?_; intro Q1) | (show AW _ _ (.exit _) _ _ _; refine Al ?_; first | show AW _ _ _ _ _ _ | show ∃ x', _ < _ ∧ _) | (show AW _ _ (.goto _) _ _ _; refine Ci ?_; try dsimp only [Ax, Aa, A2, Af]) | (show AW _ _ (.ret) _ _ _; refine Aw ?_; try dsimp only [Ax, Aa, A2, Af]) | fail)
      refine Bu (Bm rfl Bl) (.own _ _ _) ?_; rfl
    · have hpos : 0 < lv.length := List.length_pos_iff.2 hlv0
      repeat' (first
    | ((show AL _ _ _ _ _ _ _ _; refine Ag Y ?_); (first
      | refine Aq hG Y Y ?_
      | refine A5 hG Y Y ?_
      | (show AOp _ _ ⟨_, .call ⟨.builtin .len, _, _⟩, _, _, _, _⟩ _ _ _; first | refine Bh hG Y Y Y Y ?_ | refine Bq hG Y Y Y Y Y ?_)
      | (show AOp _ _ ⟨_, .lookup _ _ _ _, _, _, _, _⟩ _ _ _; first | refine r_lookF hG Y Y Y Y Y Y Y Y Y ?_ | refine Cq hG Y Y Y Y Y Y Y Y Y ?_ | refine Bz (n := 0) hG Y Y Y Y Y Y Y Y Y Y ?_ | refine Bz (n := 1) hG Y Y Y Y Y Y Y Y Y Y ?_)
      | (show AOp _ _ ⟨_, .mapUpdate _ _ _ _, _, _, _, _⟩ _ _ _; first | refine B7 0 hG Y Y Y Y Y Y Y Y ?_ | refine B7 1 hG Y Y Y Y Y Y Y Y ?_)
      | (show AOp _ _ ⟨_, .binOp .add _ _ _ _, _, _, _, _⟩ _ _ _; first | refine Ac hG Y Y Y Y Y (by omega) ?_ | refine Ac (m := 1) hG Y Y Y Y Y (by omega) ?_ | refine Ab hG Y Y Y Y Y (by omega) ?_)
      | (show AOp _ _ ⟨_, .binOp _ _ _ _ _, _, _, _, _⟩ _ _ _; first | refine At hG Y Y Y Y Y (by omega) ?_ | refine Au hG Y Y Y Y Y (by omega) ?_ | (refine Am hG Y Y Y Y Y (fun h => ?_) (fun h => ?_)))
      | (show AOp _ _ ⟨_, .load _ _, _, _, _, _⟩ _ _ _; first | refine Ak (α := Nat) 0 hG Y Y Y Y (by omega) Y ?_ | refine Ak (α := Nat) 1 hG Y Y Y Y (by omega) Y ?_ | refine Ay hG Y Y Y ?_ | refine Bg 0 hG Y Y Y Y ?_ | refine Bg 1 hG Y Y Y Y ?_)
      | (show AOp _ _ ⟨_, .indexAddr _ _ _, _, _, _, _⟩ _ _ _; first | refine A1 hG Y Y Y Y Y Y Y (by omega) ?_ | refine A0 hG Y Y Y Y Y Y Y (by omega) ?_ | refine Az hG Y Y Y Y Y Y Y (by omega) ?_ | refine A9 hG Y Y ?_)
      | refine A6 hG Y Y Y ?_
      | (show AOp _ _ ⟨_, .buildSlice _ _ _, _, _, _, _⟩ _ _ _; first | refine r_mk (sz := 1) hG Y Y Y Y Y Y Y ?_)
      | (show AOp _ _ ⟨_, .alloc _, _, _, _, _⟩ _ _ _; refine Ce hG Y Y (fun i => ?_))
      | (show AOp _ _ ⟨_, .store _ _ _, _, _, _, _⟩ _ _ _; first | refine Bc (α := Nat) 0 hG Y Y Y Ah Bb Y Y (by first | omega | (simp only [Array.size_setIfInBounds]; omega)) ?_ | refine Bc (α := Nat) 1 hG Y Y Y Ah Bb Y Y (by first | omega | (simp only [Array.size_setIfInBounds]; omega)) ?_ | refine Bv 0 hG Y Y Y Y Y Y Y ?_ | refine Bv 1 hG Y Y Y Y Y Y Y ?_)
      | (show AOp _ _ ⟨_, .call ⟨.builtin .append, _, _⟩, _, _, _, _⟩ _ _ _; first | refine Bp 0 (ys := lv) hG Y Y Y Y Y Y Y ⟨_, Y⟩ Y Y Y Y Y (by simp only [List.length_append, List.length_map, List.length_cons, List.length_nil]; omega) (fun k => ?_) | refine Bo (sz := 1) (xs := []) hG Y Y Y Y Y Y Y ⟨_, Y⟩ Y Y Y Y Y Y Y (by first | omega | (simp; omega)) (fun k => ?_) | refine Bp 0 hG Y Y Y Y Y Y Y ⟨_, Y⟩ Y Y Y Y Y (by first | omega | (simp only [List.length_append, List.length_cons, List.length_nil]; omega)) (fun k => ?_) | fail)
      | refine r_q hG Y Y Y ?_))
    | (show AL _ _ _ _ _ _ _ _; first | refine Bk Y Y Y ?_ | (refine Ar ?_; first | show AW _ _ _ _ _ _ | show ∃ x', _ < _ ∧ _)) | (show AW _ _ (.seq _ _) _ _ _; (fail_if_success show AW _ _ (.seq (.region 17 _ _) _) _ _ _); refine Ai ?_; intro Q1) | (show AW _ _ (.region _ _ false) _ _ _; refine Ad ?_; intro O1) | (show AW _ _ (.cond _ _ _) _ _ _; first | refine Ao Y ?_ | refine Ap Y ?_ | refine Ba Y (fun h => ?_) (fun h => ?_)) | (show AW _ _ (.skip) _ _ _; refine Aj ?_; first | show AW _ _ _ _ _ _ | show ∃ x', _ < _ ∧ _) | (show AW _ _ (.block _ _) _ _ _; refine Ae ?_; intro Q1) | (show AW _ _ (.exit _) _ _ _; refine Al ?_; first | show AW _ _ _ _ _ _ | show ∃ x', _ < _ ∧ _) | (show AW _ _ (.goto _) _ _ _; refine Ci ?_; try dsimp only [Ax, Aa, A2, Af]) | (show AW _ _ (.ret) _ _ _; refine Aw ?_; try dsimp only [Ax, Aa, A2, Af]) | fail)
      refine aw_range (x0 := 0) hG (E := fun done y => [(3, .mro ((M.map kvT).map Prod.fst) ((M.map kvT).map Prod.snd)), (6, .sl 1 (.tok k) ((out ++ lv).map mT)), (7, .sl 1 .no (lv.map mT)), (10, bE ((keysAt M done).filter (belowP M lv)) y)]) (S := fun done y => bS off k ((keysAt M done).filter (belowP M lv)) y) rfl rfl rfl rfl rfl rfl rfl rfl rfl (fun done y => ⟨rfl, rfl⟩) (fun v => ?_) (.refl _) ?_ ?_
      · repeat (first | exact .nil _ | refine .cons rfl ?_)
      · intro v done y j key u hnd hlt hj hes
        rw [List.getElem?_map] at hes
        obtain ⟨⟨kk, kv⟩, hjm, hkv⟩ := Option.map_eq_some_iff.1 hes
        obtain ⟨rfl, rfl⟩ : (T.int .u64 ((kk : Nat) : Int)) = key ∧ (T.int .i64 kv) = u := by simpa [kvT] using hkv
        have hkk : kk < 18446744073709551616 := hlts (kk, kv) (List.mem_of_getElem? hjm)
        have hP := name_Parent hkk
        have hC := srt_Contains (v := parN kk) (idsT_map .no lv) (by omega)
        have hgl : ((keysAt M done).filter (belowP M lv)).length ≤ 255 := by
          refine Nat.le_trans (List.length_filter_le _ _) ?_
          have := nodup_le _ done hnd hlt
          simp [keysAt] at this ⊢; omega
        have hgs : (keysAt M (done ++ [j])).filter (belowP M lv) = (keysAt M done).filter (belowP M lv) ++ (if belowP M lv kk = true then [kk] else []) := by
          have : keysAt M (done ++ [j]) = keysAt M done ++ [kk] := by simp [keysAt, List.getD, hjm]
          rw [this, List.filter_append]
          congr 1
          by_cases hb : belowP M lv kk = true <;> simp [hb]
        have hbp : belowP M lv kk = (decide (parN kk ∈ lv) && decide (klook M (parN kk) = 1)) := rfl
        rw [hgs, hbp]
        generalize (keysAt M done).filter (belowP M lv) = g at *
        clear hgs hbp hes hkv hd e ho
        generalize parN kk = p at *
        by_cases hin : p ∈ lv
        · rw [decide_eq_true hin] at hC
          by_cases hk1 : klook M p = 1
          · rw [decide_eq_true hin, decide_eq_true hk1]
            cases g with
            | nil =>
              repeat' (first
    | ((show AL _ _ _ _ _ _ _ _; refine Ag Y ?_); (first
      | refine Aq hG Y Y ?_
      | refine A5 hG Y Y ?_
      | (show AOp _ _ ⟨_, .call ⟨.builtin .len, _, _⟩, _, _, _, _⟩ _ _ _; first | refine Bh hG Y Y Y Y ?_ | refine Bq hG Y Y Y Y Y ?_)
      | (show AOp _ _ ⟨_, .lookup _ _ _ _, _, _, _, _⟩ _ _ _; first | refine r_lookF hG Y Y Y Y Y Y Y Y Y ?_ | refine Cq hG Y Y Y Y Y Y Y Y Y ?_ | refine Bz (n := 0) hG Y Y Y Y Y Y Y Y Y Y ?_ | refine Bz (n := 1) hG Y Y Y Y Y Y Y Y Y Y ?_)
      | (show AOp _ _ ⟨_, .mapUpdate _ _ _ _, _, _, _, _⟩ _ _ _; first | refine B7 0 hG Y Y Y Y Y Y Y Y ?_ | refine B7 1 hG Y Y Y Y Y Y Y Y ?_)
      | (show AOp _ _ ⟨_, .binOp .add _ _ _ _, _, _, _, _⟩ _ _ _; first | refine Ac hG Y Y Y Y Y (by omega) ?_ | refine Ac (m := 1) hG Y Y Y Y Y (by omega) ?_ | refine Ab hG Y Y Y Y Y (by omega) ?_)
      | (show AOp _ _ ⟨_, .binOp _ _ _ _ _, _, _, _, _⟩ _ _ _; first | refine At hG Y Y Y Y Y (by omega) ?_ | refine Au hG Y Y Y Y Y (by omega) ?_ | (refine Am hG Y Y Y Y Y (fun h => ?_) (fun h => ?_)))
      | (show AOp _ _ ⟨_, .load _ _, _, _, _, _⟩ _ _ _; first | refine Ak (α := Nat) 0 hG Y Y Y Y (by omega) Y ?_ | refine Ak (α := Nat) 1 hG Y Y Y Y (by omega) Y ?_ | refine Ay hG Y Y Y ?_ | refine Bg 0 hG Y Y Y Y ?_ | refine Bg 1 hG Y Y Y Y ?_)
      | (show AOp _ _ ⟨_, .indexAddr _ _ _, _, _, _, _⟩ _ _ _; first | refine A1 hG Y Y Y Y Y Y Y (by omega) ?_ | refine A0 hG Y Y Y Y Y Y Y (by omega) ?_ | refine Az hG Y Y Y Y Y Y Y (by omega) ?_ | refine A9 hG Y Y ?_)
      | refine A6 hG Y Y Y ?_
      | (show AOp _ _ ⟨_, .buildSlice _ _ _, _, _, _, _⟩ _ _ _; first | refine r_mk (sz := 1) hG Y Y Y Y Y Y Y ?_)
      | (show AOp _ _ ⟨_, .alloc _, _, _, _, _⟩ _ _ _; refine Ce hG Y Y (fun i => ?_))
      | (show AOp _ _ ⟨_, .store _ _ _, _, _, _, _⟩ _ _ _; first | refine Bc (α := Nat) 0 hG Y Y Y Ah Bb Y Y (by first | omega | (simp only [Array.size_setIfInBounds]; omega)) ?_ | refine Bc (α := Nat) 1 hG Y Y Y Ah Bb Y Y (by first | omega | (simp only [Array.size_setIfInBounds]; omega)) ?_ | refine Bv 0 hG Y Y Y Y Y Y Y ?_ | refine Bv 1 hG Y Y Y Y Y Y Y ?_)
      | (show AOp _ _ ⟨_, .call ⟨.builtin .append, _, _⟩, _, _, _, _⟩ _ _ _; fail)
      | (show AOp _ _ ⟨_, .call ⟨.value _, _, _⟩, _, _, _, _⟩ _ _ _; first | refine Bn Y Y Y Y Y (by first | (apply hP <;> (first | assumption | omega | exact A4 _ _ | exact Bd _ | exact A7 _ _ | exact Bi _ | rfl | (simp; omega))) | fail) ?_ | refine Bn Y Y Y Y Y (by first | (apply hC <;> (first | assumption | omega | exact A4 _ _ | exact Bd _ | exact A7 _ _ | exact Bi _ | rfl | (simp; omega))) | fail) ?_ | fail)
      | refine r_q hG Y Y Y ?_))
    | (show AL _ _ _ _ _ _ _ _; first | refine Bk Y Y Y ?_ | (refine Ar ?_; first | show AW _ _ _ _ _ _ | show ∃ x', _ < _ ∧ _)) | (show AW _ _ (.seq _ _) _ _ _; refine Ai ?_; intro Q1) | (show AW _ _ (.region _ _ false) _ _ _; refine Ad ?_; intro O1) | (show AW _ _ (.cond _ _ _) _ _ _; first | refine Ao Y ?_ | refine Ap Y ?_ | refine Ba Y (fun h => ?_) (fun h => ?_)) | (show AW _ _ (.skip) _ _ _; refine Aj ?_; first | show AW _ _ _ _ _ _ | show ∃ x', _ < _ ∧ _) | (show AW _ _ (.block _ _) _ _ _; refine Ae ?_; intro Q1) | (show AW _ _ (.exit _) _ _ _; refine Al ?_; first | show AW _ _ _ _ _ _ | show ∃ x', _ < _ ∧ _) | (show AW _ _ (.goto _) _ _ _; refine Ci ?_; try dsimp only [Ax, Aa, A2, Af]) | (show AW _ _ (.ret) _ _ _; refine Aw ?_; try dsimp only [Ax, Aa, A2, Af]) | fail)
              refine Ag rfl (aop_app0L (objs := fun _ => none) hG rfl rfl rfl rfl rfl ⟨_, rfl⟩ rfl rfl (fun i o h => by cases h) rfl rfl (by simp) (by simp) rfl (fun i' hi' => ?_))
              repeat' (first
    | ((show AL _ _ _ _ _ _ _ _; refine Ag Y ?_); (first
      | refine Aq hG Y Y ?_
      | refine A5 hG Y Y ?_
      | (show AOp _ _ ⟨_, .call ⟨.builtin .len, _, _⟩, _, _, _, _⟩ _ _ _; first | refine Bh hG Y Y Y Y ?_ | refine Bq hG Y Y Y Y Y ?_)
      | (show AOp _ _ ⟨_, .lookup _ _ _ _, _, _, _, _⟩ _ _ _; first | refine r_lookF hG Y Y Y Y Y Y Y Y Y ?_ | refine Cq hG Y Y Y Y Y Y Y Y Y ?_ | refine Bz (n := 0) hG Y Y Y Y Y Y Y Y Y Y ?_ | refine Bz (n := 1) hG Y Y Y Y Y Y Y Y Y Y ?_)
      | (show AOp _ _ ⟨_, .mapUpdate _ _ _ _, _, _, _, _⟩ _ _ _; first | refine B7 0 hG Y Y Y Y Y Y Y Y ?_ | refine B7 1 hG Y Y Y Y Y Y Y Y ?_)
      | (show AOp _ _ ⟨_, .binOp .add _ _ _ _, _, _, _, _⟩ _ _ _; first | refine Ac hG Y Y Y Y Y (by omega) ?_ | refine Ac (m := 1) hG Y Y Y Y Y (by omega) ?_ | refine Ab hG Y Y Y Y Y (by omega) ?_)
      | (show AOp _ _ ⟨_, .binOp _ _ _ _ _, _, _, _, _⟩ _ _ _; first | refine At hG Y Y Y Y Y (by omega) ?_ | refine Au hG Y Y Y Y Y (by omega) ?_ | (refine Am hG Y Y Y Y Y (fun h => ?_) (fun h => ?_)))
      | (show AOp _ _ ⟨_, .load _ _, _, _, _, _⟩ _ _ _; first | refine Ak (α := Nat) 0 hG Y Y Y Y (by omega) Y ?_ | refine Ak (α := Nat) 1 hG Y Y Y Y (by omega) Y ?_ | refine Ay hG Y Y Y ?_ | refine Bg 0 hG Y Y Y Y ?_ | refine Bg 1 hG Y Y Y Y ?_)
      | (show AOp _ _ ⟨_, .indexAddr _ _ _, _, _, _, _⟩ _ _ _; first | refine A1 hG Y Y Y Y Y Y Y (by omega) ?_ | refine A0 hG Y Y Y Y Y Y Y (by omega) ?_ | refine Az hG Y Y Y Y Y Y Y (by omega) ?_ | refine A9 hG Y Y ?_)
      | refine A6 hG Y Y Y ?_
      | (show AOp _ _ ⟨_, .buildSlice _ _ _, _, _, _, _⟩ _ _ _; first | refine r_mk (sz := 1) hG Y Y Y Y Y Y Y ?_)
      | (show AOp _ _ ⟨_, .alloc _, _, _, _, _⟩ _ _ _; refine Ce hG Y Y (fun i => ?_))
      | (show AOp _ _ ⟨_, .store _ _ _, _, _, _, _⟩ _ _ _; first | refine Bc (α := Nat) 0 hG Y Y Y Ah Bb Y Y (by first | omega | (simp only [Array.size_setIfInBounds]; omega)) ?_ | refine Bc (α := Nat) 1 hG Y Y Y Ah Bb Y Y (by first | omega | (simp only [Array.size_setIfInBounds]; omega)) ?_ | refine Bv 0 hG Y Y Y Y Y Y Y ?_ | refine Bv 1 hG Y Y Y Y Y Y Y ?_)
      | (show AOp _ _ ⟨_, .call ⟨.builtin .append, _, _⟩, _, _, _, _⟩ _ _ _; first | refine Bo (sz := 1) (xs := []) hG Y Y Y Y Y Y Y ⟨_, Y⟩ Y Y Y Y Y Y Y (by first | omega | (simp; omega)) (fun k => ?_) | refine Bp 0 hG Y Y Y Y Y Y Y ⟨_, Y⟩ Y Y Y Y Y (by first | omega | (simp only [List.length_append, List.length_cons, List.length_nil]; omega)) (fun k => ?_) | fail)
      | refine r_q hG Y Y Y ?_))
    | (show AL _ _ _ _ _ _ _ _; first | refine Bk Y Y Y ?_ | (refine Ar ?_; first | show AW _ _ _ _ _ _ | show ∃ x', _ < _ ∧ _)) | (show AW _ _ (.seq _ _) _ _ _; refine Ai ?_; intro Q1) | (show AW _ _ (.region _ _ false) _ _ _; refine Ad ?_; intro O1) | (show AW _ _ (.cond _ _ _) _ _ _; first | refine Ao Y ?_ | refine Ap Y ?_ | refine Ba Y (fun h => ?_) (fun h => ?_)) | (show AW _ _ (.skip) _ _ _; refine Aj ?_; first | show AW _ _ _ _ _ _ | show ∃ x', _ < _ ∧ _) | (show AW _ _ (.block _ _) _ _ _; refine Ae ?_; intro Q1) | (show AW _ _ (.exit _) _ _ _; refine Al ?_; first | show AW _ _ _ _ _ _ | show ∃ x', _ < _ ∧ _) | (show AW _ _ (.goto _) _ _ _; refine Ci ?_; try dsimp only [Ax, Aa, A2, Af]) | (show AW _ _ (.ret) _ _ _; refine Aw ?_; try dsimp only [Ax, Aa, A2, Af]) | fail)
              (first | refine Ar ?_ | refine Aj ?_ | skip); show ∃ y', Knows _ _ ∧ Ts.GStep _ _
              exact ⟨i', .cons rfl (.cons rfl (.cons rfl (.cons rfl (.consW rfl (.eq rfl) (.nil _))))), .refl _⟩
            | cons z g =>
              repeat' (first
    | ((show AL _ _ _ _ _ _ _ _; refine Ag Y ?_); (first
      | refine Aq hG Y Y ?_
      | refine A5 hG Y Y ?_
      | (show AOp _ _ ⟨_, .call ⟨.builtin .len, _, _⟩, _, _, _, _⟩ _ _ _; first | refine Bh hG Y Y Y Y ?_ | refine Bq hG Y Y Y Y Y ?_)
      | (show AOp _ _ ⟨_, .lookup _ _ _ _, _, _, _, _⟩ _ _ _; first | refine r_lookF hG Y Y Y Y Y Y Y Y Y ?_ | refine Cq hG Y Y Y Y Y Y Y Y Y ?_ | refine Bz (n := 0) hG Y Y Y Y Y Y Y Y Y Y ?_ | refine Bz (n := 1) hG Y Y Y Y Y Y Y Y Y Y ?_)
      | (show AOp _ _ ⟨_, .mapUpdate _ _ _ _, _, _, _, _⟩ _ _ _; first | refine B7 0 hG Y Y Y Y Y Y Y Y ?_ | refine B7 1 hG Y Y Y Y Y Y Y Y ?_)
      | (show AOp _ _ ⟨_, .binOp .add _ _ _ _, _, _, _, _⟩ _ _ _; first | refine Ac hG Y Y Y Y Y (by omega) ?_ | refine Ac (m := 1) hG Y Y Y Y Y (by omega) ?_ | refine Ab hG Y Y Y Y Y (by omega) ?_)
      | (show AOp _ _ ⟨_, .binOp _ _ _ _ _, _, _, _, _⟩ _ _ _; first | refine At hG Y Y Y Y Y (by omega) ?_ | refine Au hG Y Y Y Y Y (by omega) ?_ | (refine Am hG Y Y Y Y Y (fun h => ?_) (fun h => ?_)))
      | (show AOp _ _ ⟨_, .load _ _, _, _, _, _⟩ _ _ _; first | refine Ak (α := Nat) 0 hG Y Y Y Y (by omega) Y ?_ | refine Ak (α := Nat) 1 hG Y Y Y Y (by omega) Y ?_ | refine Ay hG Y Y Y ?_ | refine Bg 0 hG Y Y Y Y ?_ | refine Bg 1 hG Y Y Y Y ?_)
      | (show AOp _ _ ⟨_, .indexAddr _ _ _, _, _, _, _⟩ _ _ _; first | refine A1 hG Y Y Y Y Y Y Y (by omega) ?_ | refine A0 hG Y Y Y Y Y Y Y (by omega) ?_ | refine Az hG Y Y Y Y Y Y Y (by omega) ?_ | refine A9 hG Y Y ?_)
      | refine A6 hG Y Y Y ?_
      | (show AOp _ _ ⟨_, .buildSlice _ _ _, _, _, _, _⟩ _ _ _; first | refine r_mk (sz := 1) hG Y Y Y Y Y Y Y ?_)
      | (show AOp _ _ ⟨_, .alloc _, _, _, _, _⟩ _ _ _; refine Ce hG Y Y (fun i => ?_))
      | (show AOp _ _ ⟨_, .store _ _ _, _, _, _, _⟩ _ _ _; first | refine Bc (α := Nat) 0 hG Y Y Y Ah Bb Y Y (by first | omega | (simp only [Array.size_setIfInBounds]; omega)) ?_ | refine Bc (α := Nat) 1 hG Y Y Y Ah Bb Y Y (by first | omega | (simp only [Array.size_setIfInBounds]; omega)) ?_ | refine Bv 0 hG Y Y Y Y Y Y Y ?_ | refine Bv 1 hG Y Y Y Y Y Y Y ?_)
      | (show AOp _ _ ⟨_, .call ⟨.builtin .append, _, _⟩, _, _, _, _⟩ _ _ _; fail)
      | (show AOp _ _ ⟨_, .call ⟨.value _, _, _⟩, _, _, _, _⟩ _ _ _; first | refine Bn Y Y Y Y Y (by first | (apply hP <;> (first | assumption | omega | exact A4 _ _ | exact Bd _ | exact A7 _ _ | exact Bi _ | rfl | (simp; omega))) | fail) ?_ | refine Bn Y Y Y Y Y (by first | (apply hC <;> (first | assumption | omega | exact A4 _ _ | exact Bd _ | exact A7 _ _ | exact Bi _ | rfl | (simp; omega))) | fail) ?_ | fail)
      | refine r_q hG Y Y Y ?_))
    | (show AL _ _ _ _ _ _ _ _; first | refine Bk Y Y Y ?_ | (refine Ar ?_; first | show AW _ _ _ _ _ _ | show ∃ x', _ < _ ∧ _)) | (show AW _ _ (.seq _ _) _ _ _; refine Ai ?_; intro Q1) | (show AW _ _ (.region _ _ false) _ _ _; refine Ad ?_; intro O1) | (show AW _ _ (.cond _ _ _) _ _ _; first | refine Ao Y ?_ | refine Ap Y ?_ | refine Ba Y (fun h => ?_) (fun h => ?_)) | (show AW _ _ (.skip) _ _ _; refine Aj ?_; first | show AW _ _ _ _ _ _ | show ∃ x', _ < _ ∧ _) | (show AW _ _ (.block _ _) _ _ _; refine Ae ?_; intro Q1) | (show AW _ _ (.exit _) _ _ _; refine Al ?_; first | show AW _ _ _ _ _ _ | show ∃ x', _ < _ ∧ _) | (show AW _ _ (.goto _) _ _ _; refine Ci ?_; try dsimp only [Ax, Aa, A2, Af]) | (show AW _ _ (.ret) _ _ _; refine Aw ?_; try dsimp only [Ax, Aa, A2, Af]) | fail)
              refine Ag rfl (aop_appL (n := 0) (objs := fun _ => none) hG rfl rfl rfl rfl rfl ⟨_, rfl⟩ rfl rfl ?_ rfl (fun i o h => by cases h) rfl rfl ?_ ?_ rfl (fun i' hi' => ?_))
              · simp [rowT_length]
              · intro q hq; simp [flat, T.cells] at hq; subst hq; rfl
              · simp only [List.length_cons, List.length_nil] at *; omega
              repeat' (first
    | ((show AL _ _ _ _ _ _ _ _; refine Ag Y ?_); (first
      | refine Aq hG Y Y ?_
      | refine A5 hG Y Y ?_
      | (show AOp _ _ ⟨_, .call ⟨.builtin .len, _, _⟩, _, _, _, _⟩ _ _ _; first | refine Bh hG Y Y Y Y ?_ | refine Bq hG Y Y Y Y Y ?_)
      | (show AOp _ _ ⟨_, .lookup _ _ _ _, _, _, _, _⟩ _ _ _; first | refine r_lookF hG Y Y Y Y Y Y Y Y Y ?_ | refine Cq hG Y Y Y Y Y Y Y Y Y ?_ | refine Bz (n := 0) hG Y Y Y Y Y Y Y Y Y Y ?_ | refine Bz (n := 1) hG Y Y Y Y Y Y Y Y Y Y ?_)
      | (show AOp _ _ ⟨_, .mapUpdate _ _ _ _, _, _, _, _⟩ _ _ _; first | refine B7 0 hG Y Y Y Y Y Y Y Y ?_ | refine B7 1 hG Y Y Y Y Y Y Y Y ?_)
      | (show AOp _ _ ⟨_, .binOp .add _ _ _ _, _, _, _, _⟩ _ _ _; first | refine Ac hG Y Y Y Y Y (by omega) ?_ | refine Ac (m := 1) hG Y Y Y Y Y (by omega) ?_ | refine Ab hG Y Y Y Y Y (by omega) ?_)
      | (show AOp _ _ ⟨_, .binOp _ _ _ _ _, _, _, _, _⟩ _ _ _; first | refine At hG Y Y Y Y Y (by omega) ?_ | refine Au hG Y Y Y Y Y (by omega) ?_ | (refine Am hG Y Y Y Y Y (fun h => ?_) (fun h => ?_)))
      | (show AOp _ _ ⟨_, .load _ _, _, _, _, _⟩ _ _ _; first | refine Ak (α := Nat) 0 hG Y Y Y Y (by omega) Y ?_ | refine Ak (α := Nat) 1 hG Y Y Y Y (by omega) Y ?_ | refine Ay hG Y Y Y ?_ | refine Bg 0 hG Y Y Y Y ?_ | refine Bg 1 hG Y Y Y Y ?_)
      | (show AOp _ _ ⟨_, .indexAddr _ _ _, _, _, _, _⟩ _ _ _; first | refine A1 hG Y Y Y Y Y Y Y (by omega) ?_ | refine A0 hG Y Y Y Y Y Y Y (by omega) ?_ | refine Az hG Y Y Y Y Y Y Y (by omega) ?_ | refine A9 hG Y Y ?_)
      | refine A6 hG Y Y Y ?_
      | (show AOp _ _ ⟨_, .buildSlice _ _ _, _, _, _, _⟩ _ _ _; first | refine r_mk (sz := 1) hG Y Y Y Y Y Y Y ?_)
      | (show AOp _ _ ⟨_, .alloc _, _, _, _, _⟩ _ _ _; refine Ce hG Y Y (fun i => ?_))
      | (show AOp _ _ ⟨_, .store _ _ _, _, _, _, _⟩ _ _ _; first | refine Bc (α := Nat) 0 hG Y Y Y Ah Bb Y Y (by first | omega | (simp only [Array.size_setIfInBounds]; omega)) ?_ | refine Bc (α := Nat) 1 hG Y Y Y Ah Bb Y Y (by first | omega | (simp only [Array.size_setIfInBounds]; omega)) ?_ | refine Bv 0 hG Y Y Y Y Y Y Y ?_ | refine Bv 1 hG Y Y Y Y Y Y Y ?_)
      | (show AOp _ _ ⟨_, .call ⟨.builtin .append, _, _⟩, _, _, _, _⟩ _ _ _; first | refine Bo (sz := 1) (xs := []) hG Y Y Y Y Y Y Y ⟨_, Y⟩ Y Y Y Y Y Y Y (by first | omega | (simp; omega)) (fun k => ?_) | refine Bp 0 hG Y Y Y Y Y Y Y ⟨_, Y⟩ Y Y Y Y Y (by first | omega | (simp only [List.length_append, List.length_cons, List.length_nil]; omega)) (fun k => ?_) | fail)
      | refine r_q hG Y Y Y ?_))
    | (show AL _ _ _ _ _ _ _ _; first | refine Bk Y Y Y ?_ | (refine Ar ?_; first | show AW _ _ _ _ _ _ | show ∃ x', _ < _ ∧ _)) | (show AW _ _ (.seq _ _) _ _ _; refine Ai ?_; intro Q1) | (show AW _ _ (.region _ _ false) _ _ _; refine Ad ?_; intro O1) | (show AW _ _ (.cond _ _ _) _ _ _; first | refine Ao Y ?_ | refine Ap Y ?_ | refine Ba Y (fun h => ?_) (fun h => ?_)) | (show AW _ _ (.skip) _ _ _; refine Aj ?_; first | show AW _ _ _ _ _ _ | show ∃ x', _ < _ ∧ _) | (show AW _ _ (.block _ _) _ _ _; refine Ae ?_; intro Q1) | (show AW _ _ (.exit _) _ _ _; refine Al ?_; first | show AW _ _ _ _ _ _ | show ∃ x', _ < _ ∧ _) | (show AW _ _ (.goto _) _ _ _; refine Ci ?_; try dsimp only [Ax, Aa, A2, Af]) | (show AW _ _ (.ret) _ _ _; refine Aw ?_; try dsimp only [Ax, Aa, A2, Af]) | fail)
              (first | refine Ar ?_ | refine Aj ?_ | skip); show ∃ y', Knows _ _ ∧ Ts.GStep _ _
              exact ⟨i', .cons rfl (.cons rfl (.cons rfl (.cons rfl (.consW rfl (.eq (by simp [bE])) (.nil _))))), by
                show Go.Ts.GStep ⟨[(i', .cells ((rowT mT (z :: g).toArray).drop 0 ++ flat [mT kk]))], [k], off, none⟩ _
                rw [rowN_snoc]; exact .refl _⟩
          · rw [decide_eq_true hin, decide_eq_false hk1]
            cases g with
            | nil =>
              repeat' (first
    | ((show AL _ _ _ _ _ _ _ _; refine Ag Y ?_); (first
      | refine Aq hG Y Y ?_
      | refine A5 hG Y Y ?_
      | (show AOp _ _ ⟨_, .call ⟨.builtin .len, _, _⟩, _, _, _, _⟩ _ _ _; first | refine Bh hG Y Y Y Y ?_ | refine Bq hG Y Y Y Y Y ?_)
      | (show AOp _ _ ⟨_, .lookup _ _ _ _, _, _, _, _⟩ _ _ _; first | refine r_lookF hG Y Y Y Y Y Y Y Y Y ?_ | refine Cq hG Y Y Y Y Y Y Y Y Y ?_ | refine Bz (n := 0) hG Y Y Y Y Y Y Y Y Y Y ?_ | refine Bz (n := 1) hG Y Y Y Y Y Y Y Y Y Y ?_)
      | (show AOp _ _ ⟨_, .mapUpdate _ _ _ _, _, _, _, _⟩ _ _ _; first | refine B7 0 hG Y Y Y Y Y Y Y Y ?_ | refine B7 1 hG Y Y Y Y Y Y Y Y ?_)
      | (show AOp _ _ ⟨_, .binOp .add _ _ _ _, _, _, _, _⟩ _ _ _; first | refine Ac hG Y Y Y Y Y (by omega) ?_ | refine Ac (m := 1) hG Y Y Y Y Y (by omega) ?_ | refine Ab hG Y Y Y Y Y (by omega) ?_)
      | (show AOp _ _ ⟨_, .binOp _ _ _ _ _, _, _, _, _⟩ _ _ _; first | refine At hG Y Y Y Y Y (by omega) ?_ | refine Au hG Y Y Y Y Y (by omega) ?_ | (refine Am hG Y Y Y Y Y (fun h => ?_) (fun h => ?_)))
      | (show AOp _ _ ⟨_, .load _ _, _, _, _, _⟩ _ _ _; first | refine Ak (α := Nat) 0 hG Y Y Y Y (by omega) Y ?_ | refine Ak (α := Nat) 1 hG Y Y Y Y (by omega) Y ?_ | refine Ay hG Y Y Y ?_ | refine Bg 0 hG Y Y Y Y ?_ | refine Bg 1 hG Y Y Y Y ?_)
      | (show AOp _ _ ⟨_, .indexAddr _ _ _, _, _, _, _⟩ _ _ _; first | refine A1 hG Y Y Y Y Y Y Y (by omega) ?_ | refine A0 hG Y Y Y Y Y Y Y (by omega) ?_ | refine Az hG Y Y Y Y Y Y Y (by omega) ?_ | refine A9 hG Y Y ?_)
      | refine A6 hG Y Y Y ?_
      | (show AOp _ _ ⟨_, .buildSlice _ _ _, _, _, _, _⟩ _ _ _; first | refine r_mk (sz := 1) hG Y Y Y Y Y Y Y ?_)
      | (show AOp _ _ ⟨_, .alloc _, _, _, _, _⟩ _ _ _; refine Ce hG Y Y (fun i => ?_))
      | (show AOp _ _ ⟨_, .store _ _ _, _, _, _, _⟩ _ _ _; first | refine Bc (α := Nat) 0 hG Y Y Y Ah Bb Y Y (by first | omega | (simp only [Array.size_setIfInBounds]; omega)) ?_ | refine Bc (α := Nat) 1 hG Y Y Y Ah Bb Y Y (by first | omega | (simp only [Array.size_setIfInBounds]; omega)) ?_ | refine Bv 0 hG Y Y Y Y Y Y Y ?_ | refine Bv 1 hG Y Y Y Y Y Y Y ?_)
      | (show AOp _ _ ⟨_, .call ⟨.builtin .append, _, _⟩, _, _, _, _⟩ _ _ _; first | refine Bo (sz := 1) (xs := []) hG Y Y Y Y Y Y Y ⟨_, Y⟩ Y Y Y Y Y Y Y (by first | omega | (simp; omega)) (fun k => ?_) | refine Bp 0 hG Y Y Y Y Y Y Y ⟨_, Y⟩ Y Y Y Y Y (by first | omega | (simp only [List.length_append, List.length_cons, List.length_nil]; omega)) (fun k => ?_) | fail)
      | (show AOp _ _ ⟨_, .call ⟨.value _, _, _⟩, _, _, _, _⟩ _ _ _; first | refine Bn Y Y Y Y Y (by first | (apply hP <;> (first | assumption | omega | exact A4 _ _ | exact Bd _ | exact A7 _ _ | exact Bi _ | rfl | (simp; omega))) | fail) ?_ | refine Bn Y Y Y Y Y (by first | (apply hC <;> (first | assumption | omega | exact A4 _ _ | exact Bd _ | exact A7 _ _ | exact Bi _ | rfl | (simp; omega))) | fail) ?_ | fail)
      | refine r_q hG Y Y Y ?_))
    | (show AL _ _ _ _ _ _ _ _; first | refine Bk Y Y Y ?_ | (refine Ar ?_; first | show AW _ _ _ _ _ _ | show ∃ x', _ < _ ∧ _)) | (show AW _ _ (.seq _ _) _ _ _; refine Ai ?_; intro Q1) | (show AW _ _ (.region _ _ false) _ _ _; refine Ad ?_; intro O1) | (show AW _ _ (.cond _ _ _) _ _ _; first | refine Ao Y ?_ | refine Ap Y ?_ | refine Ba Y (fun h => ?_) (fun h => ?_)) | (show AW _ _ (.skip) _ _ _; refine Aj ?_; first | show AW _ _ _ _ _ _ | show ∃ x', _ < _ ∧ _) | (show AW _ _ (.block _ _) _ _ _; refine Ae ?_; intro Q1) | (show AW _ _ (.exit _) _ _ _; refine Al ?_; first | show AW _ _ _ _ _ _ | show ∃ x', _ < _ ∧ _) | (show AW _ _ (.goto _) _ _ _; refine Ci ?_; try dsimp only [Ax, Aa, A2, Af]) | (show AW _ _ (.ret) _ _ _; refine Aw ?_; try dsimp only [Ax, Aa, A2, Af]) | fail)
              (first | refine Ar ?_ | refine Aj ?_ | skip); show ∃ y', Knows _ _ ∧ Ts.GStep _ _
              exact ⟨y, (by repeat (first | exact .nil _ | refine .cons rfl ?_)), .refl _⟩
            | cons z g =>
              repeat' (first
    | ((show AL _ _ _ _ _ _ _ _; refine Ag Y ?_); (first
      | refine Aq hG Y Y ?_
      | refine A5 hG Y Y ?_
      | (show AOp _ _ ⟨_, .call ⟨.builtin .len, _, _⟩, _, _, _, _⟩ _ _ _; first | refine Bh hG Y Y Y Y ?_ | refine Bq hG Y Y Y Y Y ?_)
      | (show AOp _ _ ⟨_, .lookup _ _ _ _, _, _, _, _⟩ _ _ _; first | refine r_lookF hG Y Y Y Y Y Y Y Y Y ?_ | refine Cq hG Y Y Y Y Y Y Y Y Y ?_ | refine Bz (n := 0) hG Y Y Y Y Y Y Y Y Y Y ?_ | refine Bz (n := 1) hG Y Y Y Y Y Y Y Y Y Y ?_)
      | (show AOp _ _ ⟨_, .mapUpdate _ _ _ _, _, _, _, _⟩ _ _ _; first | refine B7 0 hG Y Y Y Y Y Y Y Y ?_ | refine B7 1 hG Y Y Y Y Y Y Y Y ?_)
      | (show AOp _ _ ⟨_, .binOp .add _ _ _ _, _, _, _, _⟩ _ _ _; first | refine Ac hG Y Y Y Y Y (by omega) ?_ | refine Ac (m := 1) hG Y Y Y Y Y (by omega) ?_ | refine Ab hG Y Y Y Y Y (by omega) ?_)
      | (show AOp _ _ ⟨_, .binOp _ _ _ _ _, _, _, _, _⟩ _ _ _; first | refine At hG Y Y Y Y Y (by omega) ?_ | refine Au hG Y Y Y Y Y (by omega) ?_ | (refine Am hG Y Y Y Y Y (fun h => ?_) (fun h => ?_)))
      | (show AOp _ _ ⟨_, .load _ _, _, _, _, _⟩ _ _ _; first | refine Ak (α := Nat) 0 hG Y Y Y Y (by omega) Y ?_ | refine Ak (α := Nat) 1 hG Y Y Y Y (by omega) Y ?_ | refine Ay hG Y Y Y ?_ | refine Bg 0 hG Y Y Y Y ?_ | refine Bg 1 hG Y Y Y Y ?_)
      | (show AOp _ _ ⟨_, .indexAddr _ _ _, _, _, _, _⟩ _ _ _; first | refine A1 hG Y Y Y Y Y Y Y (by omega) ?_ | refine A0 hG Y Y Y Y Y Y Y (by omega) ?_ | refine Az hG Y Y Y Y Y Y Y (by omega) ?_ | refine A9 hG Y Y ?_)
      | refine A6 hG Y Y Y ?_
      | (show AOp _ _ ⟨_, .buildSlice _ _ _, _, _, _, _⟩ _ _ _; first | refine r_mk (sz := 1) hG Y Y Y Y Y Y Y ?_)
      | (show AOp _ _ ⟨_, .alloc _, _, _, _, _⟩ _ _ _; refine Ce hG Y Y (fun i => ?_))
      | (show AOp _ _ ⟨_, .store _ _ _, _, _, _, _⟩ _ _ _; first | refine Bc (α := Nat) 0 hG Y Y Y Ah Bb Y Y (by first | omega | (simp only [Array.size_setIfInBounds]; omega)) ?_ | refine Bc (α := Nat) 1 hG Y Y Y Ah Bb Y Y (by first | omega | (simp only [Array.size_setIfInBounds]; omega)) ?_ | refine Bv 0 hG Y Y Y Y Y Y Y ?_ | refine Bv 1 hG Y Y Y Y Y Y Y ?_)
      | (show AOp _ _ ⟨_, .call ⟨.builtin .append, _, _⟩, _, _, _, _⟩ _ _ _; first | refine Bo (sz := 1) (xs := []) hG Y Y Y Y Y Y Y ⟨_, Y⟩ Y Y Y Y Y Y Y (by first | omega | (simp; omega)) (fun k => ?_) | refine Bp 0 hG Y Y Y Y Y Y Y ⟨_, Y⟩ Y Y Y Y Y (by first | omega | (simp only [List.length_append, List.length_cons, List.length_nil]; omega)) (fun k => ?_) | fail)
      | (show AOp _ _ ⟨_, .call ⟨.value _, _, _⟩, _, _, _, _⟩ _ _ _; first | refine Bn Y Y Y Y Y (by first | (apply hP <;> (first | assumption | omega | exact A4 _ _ | exact Bd _ | exact A7 _ _ | exact Bi _ | rfl | (simp; omega))) | fail) ?_ | refine Bn Y Y Y Y Y (by first | (apply hC <;> (first | assumption | omega | exact A4 _ _ | exact Bd _ | exact A7 _ _ | exact Bi _ | rfl | (simp; omega))) | fail) ?_ | fail)
      | refine r_q hG Y Y Y ?_))
    | (show AL _ _ _ _ _ _ _ _; first | refine Bk Y Y Y ?_ | (refine Ar ?_; first | show AW _ _ _ _ _ _ | show ∃ x', _ < _ ∧ _)) | (show AW _ _ (.seq _ _) _ _ _; refine Ai ?_; intro Q1) | (show AW _ _ (.region _ _ false) _ _ _; refine Ad ?_; intro O1) | (show AW _ _ (.cond _ _ _) _ _ _; first | refine Ao Y ?_ | refine Ap Y ?_ | refine Ba Y (fun h => ?_) (fun h => ?_)) | (show AW _ _ (.skip) _ _ _; refine Aj ?_; first | show AW _ _ _ _ _ _ | show ∃ x', _ < _ ∧ _) | (show AW _ _ (.block _ _) _ _ _; refine Ae ?_; intro Q1) | (show AW _ _ (.exit _) _ _ _; refine Al ?_; first | show AW _ _ _ _ _ _ | show ∃ x', _ < _ ∧ _) | (show AW _ _ (.goto _) _ _ _; refine Ci ?_; try dsimp only [Ax, Aa, A2, Af]) | (show AW _ _ (.ret) _ _ _; refine Aw ?_; try dsimp only [Ax, Aa, A2, Af]) | fail)
              (first | refine Ar ?_ | refine Aj ?_ | skip); show ∃ y', Knows _ _ ∧ Ts.GStep _ _
              exact ⟨y, .cons rfl (.cons rfl (.cons rfl (.cons rfl (.consW rfl (.eq (by simp [bE])) (.nil _))))), by simpa [bS] using .refl _⟩
        · rw [decide_eq_false hin] at hC ⊢
          cases g with
          | nil =>
            repeat' (first
    | ((show AL _ _ _ _ _ _ _ _; refine Ag Y ?_); (first
      | refine Aq hG Y Y ?_
      | refine A5 hG Y Y ?_
      | (show AOp _ _ ⟨_, .call ⟨.builtin .len, _, _⟩, _, _, _, _⟩ _ _ _; first | refine Bh hG Y Y Y Y ?_ | refine Bq hG Y Y Y Y Y ?_)
      | (show AOp _ _ ⟨_, .lookup _ _ _ _, _, _, _, _⟩ _ _ _; first | refine r_lookF hG Y Y Y Y Y Y Y Y Y ?_ | refine Cq hG Y Y Y Y Y Y Y Y Y ?_ | refine Bz (n := 0) hG Y Y Y Y Y Y Y Y Y Y ?_ | refine Bz (n := 1) hG Y Y Y Y Y Y Y Y Y Y ?_)
      | (show AOp _ _ ⟨_, .mapUpdate _ _ _ _, _, _, _, _⟩ _ _ _; first | refine B7 0 hG Y Y Y Y Y Y Y Y ?_ | refine B7 1 hG Y Y Y Y Y Y Y Y ?_)
      | (show AOp _ _ ⟨_, .binOp .add _ _ _ _, _, _, _, _⟩ _ _ _; first | refine Ac hG Y Y Y Y Y (by omega) ?_ | refine Ac (m := 1) hG Y Y Y Y Y (by omega) ?_ | refine Ab hG Y Y Y Y Y (by omega) ?_)
      | (show AOp _ _ ⟨_, .binOp _ _ _ _ _, _, _, _, _⟩ _ _ _; first | refine At hG Y Y Y Y Y (by omega) ?_ | refine Au hG Y Y Y Y Y (by omega) ?_ | (refine Am hG Y Y Y Y Y (fun h => ?_) (fun h => ?_)))
      | (show AOp _ _ ⟨_, .load _ _, _, _, _, _⟩ _ _ _; first | refine Ak (α := Nat) 0 hG Y Y Y Y (by omega) Y ?_ | refine Ak (α := Nat) 1 hG Y Y Y Y (by omega) Y ?_ | refine Ay hG Y Y Y ?_ | refine Bg 0 hG Y Y Y Y ?_ | refine Bg 1 hG Y Y Y Y ?_)
      | (show AOp _ _ ⟨_, .indexAddr _ _ _, _, _, _, _⟩ _ _ _; first | refine A1 hG Y Y Y Y Y Y Y (by omega) ?_ | refine A0 hG Y Y Y Y Y Y Y (by omega) ?_ | refine Az hG Y Y Y Y Y Y Y (by omega) ?_ | refine A9 hG Y Y ?_)
      | refine A6 hG Y Y Y ?_
      | (show AOp _ _ ⟨_, .buildSlice _ _ _, _, _, _, _⟩ _ _ _; first | refine r_mk (sz := 1) hG Y Y Y Y Y Y Y ?_)
      | (show AOp _ _ ⟨_, .alloc _, _, _, _, _⟩ _ _ _; refine Ce hG Y Y (fun i => ?_))
      | (show AOp _ _ ⟨_, .store _ _ _, _, _, _, _⟩ _ _ _; first | refine Bc (α := Nat) 0 hG Y Y Y Ah Bb Y Y (by first | omega | (simp only [Array.size_setIfInBounds]; omega)) ?_ | refine Bc (α := Nat) 1 hG Y Y Y Ah Bb Y Y (by first | omega | (simp only [Array.size_setIfInBounds]; omega)) ?_ | refine Bv 0 hG Y Y Y Y Y Y Y ?_ | refine Bv 1 hG Y Y Y Y Y Y Y ?_)
      | (show AOp _ _ ⟨_, .call ⟨.builtin .append, _, _⟩, _, _, _, _⟩ _ _ _; first | refine Bo (sz := 1) (xs := []) hG Y Y Y Y Y Y Y ⟨_, Y⟩ Y Y Y Y Y Y Y (by first | omega | (simp; omega)) (fun k => ?_) | refine Bp 0 hG Y Y Y Y Y Y Y ⟨_, Y⟩ Y Y Y Y Y (by first | omega | (simp only [List.length_append, List.length_cons, List.length_nil]; omega)) (fun k => ?_) | fail)
      | (show AOp _ _ ⟨_, .call ⟨.value _, _, _⟩, _, _, _, _⟩ _ _ _; first | refine Bn Y Y Y Y Y (by first | (apply hP <;> (first | assumption | omega | exact A4 _ _ | exact Bd _ | exact A7 _ _ | exact Bi _ | rfl | (simp; omega))) | fail) ?_ | refine Bn Y Y Y Y Y (by first | (apply hC <;> (first | assumption | omega | exact A4 _ _ | exact Bd _ | exact A7 _ _ | exact Bi _ | rfl | (simp; omega))) | fail) ?_ | fail)
      | refine r_q hG Y Y Y ?_))
    | (show AL _ _ _ _ _ _ _ _; first | refine Bk Y Y Y ?_ | (refine Ar ?_; first | show AW _ _ _ _ _ _ | show ∃ x', _ < _ ∧ _)) | (show AW _ _ (.seq _ _) _ _ _; refine Ai ?_; intro Q1) | (show AW _ _ (.region _ _ false) _ _ _; refine Ad ?_; intro O1) | (show AW _ _ (.cond _ _ _) _ _ _; first | refine Ao Y ?_ | refine Ap Y ?_ | refine Ba Y (fun h => ?_) (fun h => ?_)) | (show AW _ _ (.skip) _ _ _; refine Aj ?_; first | show AW _ _ _ _ _ _ | show ∃ x', _ < _ ∧ _) | (show AW _ _ (.block _ _) _ _ _; refine Ae ?_; intro Q1) | (show AW _ _ (.exit _) _ _ _; refine Al ?_; first | show AW _ _ _ _ _ _ | show ∃ x', _ < _ ∧ _) | (show AW _ _ (.goto _) _ _ _; refine Ci ?_; try dsimp only [Ax, Aa, A2, Af]) | (show AW _ _ (.ret) _ _ _; refine Aw ?_; try dsimp only [Ax, Aa, A2, Af]) | fail)
            (first | refine Ar ?_ | refine Aj ?_ | skip); show ∃ y', Knows _ _ ∧ Ts.GStep _ _
            exact ⟨y, (by repeat (first | exact .nil _ | refine .cons rfl ?_)), .refl _⟩
          | cons z g =>
            repeat' (first
    | ((show AL _ _ _ _ _ _ _ _; refine Ag Y ?_); (first
      | refine Aq hG Y Y ?_
      | refine A5 hG Y Y ?_
      | (show AOp _ _ ⟨_, .call ⟨.builtin .len, _, _⟩, _, _, _, _⟩ _ _ _; first | refine Bh hG Y Y Y Y ?_ | refine Bq hG Y Y Y Y Y ?_)
      | (show AOp _ _ ⟨_, .lookup _ _ _ _, _, _, _, _⟩ _ _ _; first | refine r_lookF hG Y Y Y Y Y Y Y Y Y ?_ | refine Cq hG Y Y Y Y Y Y Y Y Y ?_ | refine Bz (n := 0) hG Y Y Y Y Y Y Y Y Y Y ?_ | refine Bz (n := 1) hG Y Y Y Y Y Y Y Y Y Y ?_)
      | (show AOp _ _ ⟨_, .mapUpdate _ _ _ _, _, _, _, _⟩ _ _ _; first | refine B7 0 hG Y Y Y Y Y Y Y Y ?_ | refine B7 1 hG Y Y Y Y Y Y Y Y ?_)
      | (show AOp _ _ ⟨_, .binOp .add _ _ _ _, _, _, _, _⟩ _ _ _; first | refine Ac hG Y Y Y Y Y (by omega) ?_ | refine Ac (m := 1) hG Y Y Y Y Y (by omega) ?_ | refine Ab hG Y Y Y Y Y (by omega) ?_)
      | (show AOp _ _ ⟨_, .binOp _ _ _ _ _, _, _, _, _⟩ _ _ _; first | refine At hG Y Y Y Y Y (by omega) ?_ | refine Au hG Y Y Y Y Y (by omega) ?_ | (refine Am hG Y Y Y Y Y (fun h => ?_) (fun h => ?_)))
      | (show AOp _ _ ⟨_, .load _ _, _, _, _, _⟩ _ _ _; first | refine Ak (α := Nat) 0 hG Y Y Y Y (by omega) Y ?_ | refine Ak (α := Nat) 1 hG Y Y Y Y (by omega) Y ?_ | refine Ay hG Y Y Y ?_ | refine Bg 0 hG Y Y Y Y ?_ | refine Bg 1 hG Y Y Y Y ?_)
      | (show AOp _ _ ⟨_, .indexAddr _ _ _, _, _, _, _⟩ _ _ _; first | refine A1 hG Y Y Y Y Y Y Y (by omega) ?_ | refine A0 hG Y Y Y Y Y Y Y (by omega) ?_ | refine Az hG Y Y Y Y Y Y Y (by omega) ?_ | refine A9 hG Y Y ?_)
      | refine A6 hG Y Y Y ?_
      | (show AOp _ _ ⟨_, .buildSlice _ _ _, _, _, _, _⟩ _ _ _; first | refine r_mk (sz := 1) hG Y Y Y Y Y Y Y ?_)
      | (show AOp _ _ ⟨_, .alloc _, _, _, _, _⟩ _ _ _; refine Ce hG Y Y (fun i => ?_))
      | (show AOp _ _ ⟨_, .store _ _ _, _, _, _, _⟩ _ _ _; first | refine Bc (α := Nat) 0 hG Y Y Y Ah Bb Y Y (by first | omega | (simp only [Array.size_setIfInBounds]; omega)) ?_ | refine Bc (α := Nat) 1 hG Y Y Y Ah Bb Y Y (by first | omega | (simp only [Array.size_setIfInBounds]; omega)) ?_ | refine Bv 0 hG Y Y Y Y Y Y Y ?_ | refine Bv 1 hG Y Y Y Y Y Y Y ?_)
      | (show AOp _ _ ⟨_, .call ⟨.builtin .append, _, _⟩, _, _, _, _⟩ _ _ _; first | refine Bo (sz := 1) (xs := []) hG Y Y Y Y Y Y Y ⟨_, Y⟩ Y Y Y Y Y Y Y (by first | omega | (simp; omega)) (fun k => ?_) | refine Bp 0 hG Y Y Y Y Y Y Y ⟨_, Y⟩ Y Y Y Y Y (by first | omega | (simp only [List.length_append, List.length_cons, List.length_nil]; omega)) (fun k => ?_) | fail)
      | (show AOp _ _ ⟨_, .call ⟨.value _, _, _⟩, _, _, _, _⟩ _ _ _; first | refine Bn Y Y Y Y Y (by first | (apply hP <;> (first | assumption | omega | exact A4 _ _ | exact Bd _ | exact A7 _ _ | exact Bi _ | rfl | (simp; omega))) | fail) ?_ | refine Bn Y Y Y Y Y (by first | (apply hC <;> (first | assumption | omega | exact A4 _ _ | exact Bd _ | exact A7 _ _ | exact Bi _ | rfl | (simp; omega))) | fail) ?_ | fail)
      | refine r_q hG Y Y Y ?_))
    | (show AL _ _ _ _ _ _ _ _; first | refine Bk Y Y Y ?_ | (refine Ar ?_; first | show AW _ _ _ _ _ _ | show ∃ x', _ < _ ∧ _)) | (show AW _ _ (.seq _ _) _ _ _; refine Ai ?_; intro Q1) | (show AW _ _ (.region _ _ false) _ _ _; refine Ad ?_; intro O1) | (show AW _ _ (.cond _ _ _) _ _ _; first | refine Ao Y ?_ | refine Ap Y ?_ | refine Ba Y (fun h => ?_) (fun h => ?_)) | (show AW _ _ (.skip) _ _ _; refine Aj ?_; first | show AW _ _ _ _ _ _ | show ∃ x', _ < _ ∧ _) | (show AW _ _ (.block _ _) _ _ _; refine Ae ?_; intro Q1) | (show AW _ _ (.exit _) _ _ _; refine Al ?_; first | show AW _ _ _ _ _ _ | show ∃ x', _ < _ ∧ _) | (show AW _ _ (.goto _) _ _ _; refine Ci ?_; try dsimp only [Ax, Aa, A2, Af]) | (show AW _ _ (.ret) _ _ _; refine Aw ?_; try dsimp only [Ax, Aa, A2, Af]) | fail)
            (first | refine Ar ?_ | refine Aj ?_ | skip); show ∃ y', Knows _ _ ∧ Ts.GStep _ _
            exact ⟨y, .cons rfl (.cons rfl (.cons rfl (.cons rfl (.consW rfl (.eq (by simp [bE])) (.nil _))))), by simpa [bS] using .refl _⟩
      · intro v done y hnd hlt hfull
        rw [List.length_map] at hfull hlt
        have hp := keys_perm hnd hlt hfull
        have hn : nextL M lv = srtL ((keysAt M done).filter (belowP M lv)) := srtL_perm (hp.symm.filter _)
        have hgl : ((keysAt M done).filter (belowP M lv)).length ≤ 255 := by
          refine Nat.le_trans (List.length_filter_le _ _) ?_
          simp [keysAt]; omega
        have hgd : ∀ id ∈ srtL ((keysAt M done).filter (belowP M lv)), parN id ∈ lv := by
          intro id hid
          have h1 := (List.mem_filter.1 ((srtL_spec _).1.mem_iff.1 hid)).2
          simp only [belowP, Bool.and_eq_true, decide_eq_true_eq] at h1
          exact h1.1
        generalize (keysAt M done).filter (belowP M lv) = g at *
        have hgl2 := srtL_len g
        obtain ⟨f, rfl⟩ : ∃ g, f = g + 1 := ⟨f - 1, by omega⟩
        have e2 : reachGo M f (srtL g) (out ++ lv) = R := by
          rw [← hn, ← e, reachGo, if_neg hlv0]
        have hf1 : 1 ≤ f := by
          obtain ⟨id, hid⟩ : ∃ id, id ∈ lv := List.exists_mem_of_ne_nil _ hlv0
          obtain ⟨l, h1, h2⟩ := hd id hid
          have := (nm_path 6 id l h1).2.1
          omega
        have hdd : ∀ id ∈ srtL g, ∃ l, nm 6 id = some l ∧ l.length = 8 - f := by
          intro id hid
          obtain ⟨l, h1, h2⟩ := hd _ (hgd id hid)
          obtain ⟨x, h3⟩ := par_depth h1
          exact ⟨x :: l, h3, by simp; omega⟩
        have hol : (out ++ lv).length ≤ (8 - f) * 255 := by
          rw [List.length_append, show 8 - f = (8 - (f + 1)) + 1 by omega, Nat.add_mul]; omega
        let X' : RcX M R := ⟨f, srtL g, out ++ lv, k, ⟨hf1, by omega⟩, hdd, by omega, hol, e2⟩
        cases g with
        | nil =>
          have hs0 := sort0
          repeat' (first
    | ((show AL _ _ _ _ _ _ _ _; refine Ag Y ?_); (first
      | refine Aq hG Y Y ?_
      | refine A5 hG Y Y ?_
      | (show AOp _ _ ⟨_, .call ⟨.builtin .len, _, _⟩, _, _, _, _⟩ _ _ _; first | refine Bh hG Y Y Y Y ?_ | refine Bq hG Y Y Y Y Y ?_)
      | (show AOp _ _ ⟨_, .lookup _ _ _ _, _, _, _, _⟩ _ _ _; first | refine r_lookF hG Y Y Y Y Y Y Y Y Y ?_ | refine Cq hG Y Y Y Y Y Y Y Y Y ?_ | refine Bz (n := 0) hG Y Y Y Y Y Y Y Y Y Y ?_ | refine Bz (n := 1) hG Y Y Y Y Y Y Y Y Y Y ?_)
      | (show AOp _ _ ⟨_, .mapUpdate _ _ _ _, _, _, _, _⟩ _ _ _; first | refine B7 0 hG Y Y Y Y Y Y Y Y ?_ | refine B7 1 hG Y Y Y Y Y Y Y Y ?_)
      | (show AOp _ _ ⟨_, .binOp .add _ _ _ _, _, _, _, _⟩ _ _ _; first | refine Ac hG Y Y Y Y Y (by omega) ?_ | refine Ac (m := 1) hG Y Y Y Y Y (by omega) ?_ | refine Ab hG Y Y Y Y Y (by omega) ?_)
      | (show AOp _ _ ⟨_, .binOp _ _ _ _ _, _, _, _, _⟩ _ _ _; first | refine At hG Y Y Y Y Y (by omega) ?_ | refine Au hG Y Y Y Y Y (by omega) ?_ | (refine Am hG Y Y Y Y Y (fun h => ?_) (fun h => ?_)))
      | (show AOp _ _ ⟨_, .load _ _, _, _, _, _⟩ _ _ _; first | refine Ak (α := Nat) 0 hG Y Y Y Y (by omega) Y ?_ | refine Ak (α := Nat) 1 hG Y Y Y Y (by omega) Y ?_ | refine Ay hG Y Y Y ?_ | refine Bg 0 hG Y Y Y Y ?_ | refine Bg 1 hG Y Y Y Y ?_)
      | (show AOp _ _ ⟨_, .indexAddr _ _ _, _, _, _, _⟩ _ _ _; first | refine A1 hG Y Y Y Y Y Y Y (by omega) ?_ | refine A0 hG Y Y Y Y Y Y Y (by omega) ?_ | refine Az hG Y Y Y Y Y Y Y (by omega) ?_ | refine A9 hG Y Y ?_)
      | refine A6 hG Y Y Y ?_
      | (show AOp _ _ ⟨_, .buildSlice _ _ _, _, _, _, _⟩ _ _ _; first | refine r_mk (sz := 1) hG Y Y Y Y Y Y Y ?_)
      | (show AOp _ _ ⟨_, .alloc _, _, _, _, _⟩ _ _ _; refine Ce hG Y Y (fun i => ?_))
      | (show AOp _ _ ⟨_, .store _ _ _, _, _, _, _⟩ _ _ _; first | refine Bc (α := Nat) 0 hG Y Y Y Ah Bb Y Y (by first | omega | (simp only [Array.size_setIfInBounds]; omega)) ?_ | refine Bc (α := Nat) 1 hG Y Y Y Ah Bb Y Y (by first | omega | (simp only [Array.size_setIfInBounds]; omega)) ?_ | refine Bv 0 hG Y Y Y Y Y Y Y ?_ | refine Bv 1 hG Y Y Y Y Y Y Y ?_)
      | (show AOp _ _ ⟨_, .call ⟨.builtin .append, _, _⟩, _, _, _, _⟩ _ _ _; first | refine Bo (sz := 1) (xs := []) hG Y Y Y Y Y Y Y ⟨_, Y⟩ Y Y Y Y Y Y Y (by first | omega | (simp; omega)) (fun k => ?_) | refine Bp 0 hG Y Y Y Y Y Y Y ⟨_, Y⟩ Y Y Y Y Y (by first | omega | (simp only [List.length_append, List.length_cons, List.length_nil]; omega)) (fun k => ?_) | fail)
      | (show AOp _ _ ⟨_, .call ⟨.value _, _, _⟩, _, _, _, _⟩ _ _ _; first | refine Bn Y Y Y Y Y (by first | (apply hs0 <;> (first | assumption | omega | exact A4 _ _ | exact Bd _ | exact A7 _ _ | exact Bi _ | rfl | (simp; omega))) | fail) ?_ | fail)
      | refine r_q hG Y Y Y ?_))
    | (show AL _ _ _ _ _ _ _ _; first | refine Bk Y Y Y ?_ | (refine Ar ?_; first | show AW _ _ _ _ _ _ | show ∃ x', _ < _ ∧ _)) | (show AW _ _ (.seq _ _) _ _ _; refine Ai ?_; intro Q1) | (show AW _ _ (.region _ _ false) _ _ _; refine Ad ?_; intro O1) | (show AW _ _ (.cond _ _ _) _ _ _; first | refine Ao Y ?_ | refine Ap Y ?_ | refine Ba Y (fun h => ?_) (fun h => ?_)) | (show AW _ _ (.skip) _ _ _; refine Aj ?_; first | show AW _ _ _ _ _ _ | show ∃ x', _ < _ ∧ _) | (show AW _ _ (.block _ _) _ _ _; refine Ae ?_; intro Q1) | (show AW _ _ (.exit _) _ _ _; refine Al ?_; first | show AW _ _ _ _ _ _ | show ∃ x', _ < _ ∧ _) | (show AW _ _ (.goto _) _ _ _; refine Ci ?_; try dsimp only [Ax, Aa, A2, Af]) | (show AW _ _ (.ret) _ _ _; refine Aw ?_; try dsimp only [Ax, Aa, A2, Af]) | fail)
          refine ⟨rfl, X', Nat.lt_succ_self _, .cons rfl (.cons rfl (.consW rfl ?_ (.nil _))), .refl _⟩
          show Wk .nilsl (.sl 1 .no ((srtL []).map mT))
          rw [List.length_eq_zero_iff.1 hgl2]; exact .nil 1
        | cons z g =>
          have hs1 := srt_sort (d0 := (z :: g).toArray) (by simp at hgl ⊢; omega)
          have hsz : (z :: g).toArray.size = (z :: g).length := rfl
          repeat' (first
    | ((show AL _ _ _ _ _ _ _ _; refine Ag Y ?_); (first
      | refine Aq hG Y Y ?_
      | refine A5 hG Y Y ?_
      | (show AOp _ _ ⟨_, .call ⟨.builtin .len, _, _⟩, _, _, _, _⟩ _ _ _; first | refine Bh hG Y Y Y Y ?_ | refine Bq hG Y Y Y Y Y ?_)
      | (show AOp _ _ ⟨_, .lookup _ _ _ _, _, _, _, _⟩ _ _ _; first | refine r_lookF hG Y Y Y Y Y Y Y Y Y ?_ | refine Cq hG Y Y Y Y Y Y Y Y Y ?_ | refine Bz (n := 0) hG Y Y Y Y Y Y Y Y Y Y ?_ | refine Bz (n := 1) hG Y Y Y Y Y Y Y Y Y Y ?_)
      | (show AOp _ _ ⟨_, .mapUpdate _ _ _ _, _, _, _, _⟩ _ _ _; first | refine B7 0 hG Y Y Y Y Y Y Y Y ?_ | refine B7 1 hG Y Y Y Y Y Y Y Y ?_)
      | (show AOp _ _ ⟨_, .binOp .add _ _ _ _, _, _, _, _⟩ _ _ _; first | refine Ac hG Y Y Y Y Y (by omega) ?_ | refine Ac (m := 1) hG Y Y Y Y Y (by omega) ?_ | refine Ab hG Y Y Y Y Y (by omega) ?_)
      | (show AOp _ _ ⟨_, .binOp _ _ _ _ _, _, _, _, _⟩ _ _ _; first | refine At hG Y Y Y Y Y (by omega) ?_ | refine Au hG Y Y Y Y Y (by omega) ?_ | (refine Am hG Y Y Y Y Y (fun h => ?_) (fun h => ?_)))
      | (show AOp _ _ ⟨_, .load _ _, _, _, _, _⟩ _ _ _; first | refine Ak (α := Nat) 0 hG Y Y Y Y (by omega) Y ?_ | refine Ak (α := Nat) 1 hG Y Y Y Y (by omega) Y ?_ | refine Ay hG Y Y Y ?_ | refine Bg 0 hG Y Y Y Y ?_ | refine Bg 1 hG Y Y Y Y ?_)
      | (show AOp _ _ ⟨_, .indexAddr _ _ _, _, _, _, _⟩ _ _ _; first | refine A1 hG Y Y Y Y Y Y Y (by omega) ?_ | refine A0 hG Y Y Y Y Y Y Y (by omega) ?_ | refine Az hG Y Y Y Y Y Y Y (by omega) ?_ | refine A9 hG Y Y ?_)
      | refine A6 hG Y Y Y ?_
      | (show AOp _ _ ⟨_, .buildSlice _ _ _, _, _, _, _⟩ _ _ _; first | refine r_mk (sz := 1) hG Y Y Y Y Y Y Y ?_)
      | (show AOp _ _ ⟨_, .alloc _, _, _, _, _⟩ _ _ _; refine Ce hG Y Y (fun i => ?_))
      | (show AOp _ _ ⟨_, .store _ _ _, _, _, _, _⟩ _ _ _; first | refine Bc (α := Nat) 0 hG Y Y Y Ah Bb Y Y (by first | omega | (simp only [Array.size_setIfInBounds]; omega)) ?_ | refine Bc (α := Nat) 1 hG Y Y Y Ah Bb Y Y (by first | omega | (simp only [Array.size_setIfInBounds]; omega)) ?_ | refine Bv 0 hG Y Y Y Y Y Y Y ?_ | refine Bv 1 hG Y Y Y Y Y Y Y ?_)
      | (show AOp _ _ ⟨_, .call ⟨.builtin .append, _, _⟩, _, _, _, _⟩ _ _ _; first | refine Bo (sz := 1) (xs := []) hG Y Y Y Y Y Y Y ⟨_, Y⟩ Y Y Y Y Y Y Y (by first | omega | (simp; omega)) (fun k => ?_) | refine Bp 0 hG Y Y Y Y Y Y Y ⟨_, Y⟩ Y Y Y Y Y (by first | omega | (simp only [List.length_append, List.length_cons, List.length_nil]; omega)) (fun k => ?_) | fail)
      | (show AOp _ _ ⟨_, .call ⟨.value _, _, _⟩, _, _, _, _⟩ _ _ _; first | refine r_row Y Y Y Y Y (List.Perm.refl _) hs1 (by assumption) ?_ | fail)
      | refine r_q hG Y Y Y ?_))
    | (show AL _ _ _ _ _ _ _ _; first | refine Bk Y Y Y ?_ | (refine Ar ?_; first | show AW _ _ _ _ _ _ | show ∃ x', _ < _ ∧ _)) | (show AW _ _ (.seq _ _) _ _ _; refine Ai ?_; intro Q1) | (show AW _ _ (.region _ _ false) _ _ _; (fail_if_success show AW _ _ (.region 24 _ _) _ _ _); refine Ad ?_; intro O1) | (show AW _ _ (.cond _ _ _) _ _ _; first | refine Ao Y ?_ | refine Ap Y ?_ | refine Ba Y (fun h => ?_) (fun h => ?_)) | (show AW _ _ (.skip) _ _ _; refine Aj ?_; first | show AW _ _ _ _ _ _ | show ∃ x', _ < _ ∧ _) | (show AW _ _ (.block _ _) _ _ _; refine Ae ?_; intro Q1) | (show AW _ _ (.exit _) _ _ _; refine Al ?_; first | show AW _ _ _ _ _ _ | show ∃ x', _ < _ ∧ _) | (show AW _ _ (.goto _) _ _ _; refine Ci ?_; try dsimp only [Ax, Aa, A2, Af]) | (show AW _ _ (.ret) _ _ _; refine Aw ?_; try dsimp only [Ax, Aa, A2, Af]) | fail)
          have es : rowT mT (Go.Sort.sort ltQ (z :: g).toArray) = (srtL (z :: g)).map mT := by
            unfold srtL rowT; induction (Go.Sort.sort ltQ (z :: g).toArray).toList with
            | nil => rfl
            | cons a l ih => simpa [flat, Ah] using ih
          rw [es]
          have hln : ((srtL (z :: g)).map mT).length = g.length + 1 := by rw [List.length_map, hgl2]; rfl
          refine aw_freeze 0 10 rfl rfl ?_ ?_ ?_
          · rw [hln]; simp
          · refine List.all_eq_true.2 fun c hc => ?_
            obtain ⟨x, _, rfl⟩ := List.mem_map.1 (List.mem_of_mem_drop (List.mem_of_mem_take hc))
            rfl
          have ec : chunks 1 (z :: g).length ((((srtL (z :: g)).map mT).drop 0).take ((z :: g).length * 1)) = (srtL (z :: g)).map mT := by
            rw [List.drop_zero, List.take_of_length_le (by rw [hln]; simp)]
            exact chunks_one _ _ hln
          rw [ec]
          repeat' (first
    | ((show AL _ _ _ _ _ _ _ _; refine Ag Y ?_); (first
      | refine Aq hG Y Y ?_
      | refine A5 hG Y Y ?_
      | (show AOp _ _ ⟨_, .call ⟨.builtin .len, _, _⟩, _, _, _, _⟩ _ _ _; first | refine Bh hG Y Y Y Y ?_ | refine Bq hG Y Y Y Y Y ?_)
      | (show AOp _ _ ⟨_, .lookup _ _ _ _, _, _, _, _⟩ _ _ _; first | refine r_lookF hG Y Y Y Y Y Y Y Y Y ?_ | refine Cq hG Y Y Y Y Y Y Y Y Y ?_ | refine Bz (n := 0) hG Y Y Y Y Y Y Y Y Y Y ?_ | refine Bz (n := 1) hG Y Y Y Y Y Y Y Y Y Y ?_)
      | (show AOp _ _ ⟨_, .mapUpdate _ _ _ _, _, _, _, _⟩ _ _ _; first | refine B7 0 hG Y Y Y Y Y Y Y Y ?_ | refine B7 1 hG Y Y Y Y Y Y Y Y ?_)
      | (show AOp _ _ ⟨_, .binOp .add _ _ _ _, _, _, _, _⟩ _ _ _; first | refine Ac hG Y Y Y Y Y (by omega) ?_ | refine Ac (m := 1) hG Y Y Y Y Y (by omega) ?_ | refine Ab hG Y Y Y Y Y (by omega) ?_)
      | (show AOp _ _ ⟨_, .binOp _ _ _ _ _, _, _, _, _⟩ _ _ _; first | refine At hG Y Y Y Y Y (by omega) ?_ | refine Au hG Y Y Y Y Y (by omega) ?_ | (refine Am hG Y Y Y Y Y (fun h => ?_) (fun h => ?_)))
      | (show AOp _ _ ⟨_, .load _ _, _, _, _, _⟩ _ _ _; first | refine Ak (α := Nat) 0 hG Y Y Y Y (by omega) Y ?_ | refine Ak (α := Nat) 1 hG Y Y Y Y (by omega) Y ?_ | refine Ay hG Y Y Y ?_ | refine Bg 0 hG Y Y Y Y ?_ | refine Bg 1 hG Y Y Y Y ?_)
      | (show AOp _ _ ⟨_, .indexAddr _ _ _, _, _, _, _⟩ _ _ _; first | refine A1 hG Y Y Y Y Y Y Y (by omega) ?_ | refine A0 hG Y Y Y Y Y Y Y (by omega) ?_ | refine Az hG Y Y Y Y Y Y Y (by omega) ?_ | refine A9 hG Y Y ?_)
      | refine A6 hG Y Y Y ?_
      | (show AOp _ _ ⟨_, .buildSlice _ _ _, _, _, _, _⟩ _ _ _; first | refine r_mk (sz := 1) hG Y Y Y Y Y Y Y ?_)
      | (show AOp _ _ ⟨_, .alloc _, _, _, _, _⟩ _ _ _; refine Ce hG Y Y (fun i => ?_))
      | (show AOp _ _ ⟨_, .store _ _ _, _, _, _, _⟩ _ _ _; first | refine Bc (α := Nat) 0 hG Y Y Y Ah Bb Y Y (by first | omega | (simp only [Array.size_setIfInBounds]; omega)) ?_ | refine Bc (α := Nat) 1 hG Y Y Y Ah Bb Y Y (by first | omega | (simp only [Array.size_setIfInBounds]; omega)) ?_ | refine Bv 0 hG Y Y Y Y Y Y Y ?_ | refine Bv 1 hG Y Y Y Y Y Y Y ?_)
      | (show AOp _ _ ⟨_, .call ⟨.builtin .append, _, _⟩, _, _, _, _⟩ _ _ _; first | refine Bo (sz := 1) (xs := []) hG Y Y Y Y Y Y Y ⟨_, Y⟩ Y Y Y Y Y Y Y (by first | omega | (simp; omega)) (fun k => ?_) | refine Bp 0 hG Y Y Y Y Y Y Y ⟨_, Y⟩ Y Y Y Y Y (by first | omega | (simp only [List.length_append, List.length_cons, List.length_nil]; omega)) (fun k => ?_) | fail)
      | refine r_q hG Y Y Y ?_))
    | (show AL _ _ _ _ _ _ _ _; first | refine Bk Y Y Y ?_ | (refine Ar ?_; first | show AW _ _ _ _ _ _ | show ∃ x', _ < _ ∧ _)) | (show AW _ _ (.seq _ _) _ _ _; refine Ai ?_; intro Q1) | (show AW _ _ (.region _ _ false) _ _ _; refine Ad ?_; intro O1) | (show AW _ _ (.cond _ _ _) _ _ _; first | refine Ao Y ?_ | refine Ap Y ?_ | refine Ba Y (fun h => ?_) (fun h => ?_)) | (show AW _ _ (.skip) _ _ _; refine Aj ?_; first | show AW _ _ _ _ _ _ | show ∃ x', _ < _ ∧ _) | (show AW _ _ (.block _ _) _ _ _; refine Ae ?_; intro Q1) | (show AW _ _ (.exit _) _ _ _; refine Al ?_; first | show AW _ _ _ _ _ _ | show ∃ x', _ < _ ∧ _) | (show AW _ _ (.goto _) _ _ _; refine Ci ?_; try dsimp only [Ax, Aa, A2, Af]) | (show AW _ _ (.ret) _ _ _; refine Aw ?_; try dsimp only [Ax, Aa, A2, Af]) | fail)
          exact ⟨rfl, X', Nat.lt_succ_self _, .cons rfl (.cons rfl (.cons rfl (.nil _))), .refl _⟩
  · intro key
    repeat' (first
    | ((show AL _ _ _ _ _ _ _ _; refine Ag Y ?_); (first
      | refine Aq hG Y Y ?_
      | refine A5 hG Y Y ?_
      | (show AOp _ _ ⟨_, .call ⟨.builtin .len, _, _⟩, _, _, _, _⟩ _ _ _; first | refine Bh hG Y Y Y Y ?_ | refine Bq hG Y Y Y Y Y ?_)
      | (show AOp _ _ ⟨_, .lookup _ _ _ _, _, _, _, _⟩ _ _ _; first | refine r_lookF hG Y Y Y Y Y Y Y Y Y ?_ | refine Cq hG Y Y Y Y Y Y Y Y Y ?_ | refine Bz (n := 0) hG Y Y Y Y Y Y Y Y Y Y ?_ | refine Bz (n := 1) hG Y Y Y Y Y Y Y Y Y Y ?_)
      | (show AOp _ _ ⟨_, .mapUpdate _ _ _ _, _, _, _, _⟩ _ _ _; first | refine B7 0 hG Y Y Y Y Y Y Y Y ?_ | refine B7 1 hG Y Y Y Y Y Y Y Y ?_)
      | (show AOp _ _ ⟨_, .binOp .add _ _ _ _, _, _, _, _⟩ _ _ _; first | refine Ac hG Y Y Y Y Y (by omega) ?_ | refine Ac (m := 1) hG Y Y Y Y Y (by omega) ?_ | refine Ab hG Y Y Y Y Y (by omega) ?_)
      | (show AOp _ _ ⟨_, .binOp _ _ _ _ _, _, _, _, _⟩ _ _ _; first | refine At hG Y Y Y Y Y (by omega) ?_ | refine Au hG Y Y Y Y Y (by omega) ?_ | (refine Am hG Y Y Y Y Y (fun h => ?_) (fun h => ?_)))
      | (show AOp _ _ ⟨_, .load _ _, _, _, _, _⟩ _ _ _; first | refine Ak (α := Nat) 0 hG Y Y Y Y (by omega) Y ?_ | refine Ak (α := Nat) 1 hG Y Y Y Y (by omega) Y ?_ | refine Ay hG Y Y Y ?_ | refine Bg 0 hG Y Y Y Y ?_ | refine Bg 1 hG Y Y Y Y ?_)
      | (show AOp _ _ ⟨_, .indexAddr _ _ _, _, _, _, _⟩ _ _ _; first | refine A1 hG Y Y Y Y Y Y Y (by omega) ?_ | refine A0 hG Y Y Y Y Y Y Y (by omega) ?_ | refine Az hG Y Y Y Y Y Y Y (by omega) ?_ | refine A9 hG Y Y ?_)
      | refine A6 hG Y Y Y ?_
      | (show AOp _ _ ⟨_, .buildSlice _ _ _, _, _, _, _⟩ _ _ _; first | refine r_mk (sz := 1) hG Y Y Y Y Y Y Y ?_)
      | (show AOp _ _ ⟨_, .alloc _, _, _, _, _⟩ _ _ _; refine Ce hG Y Y (fun i => ?_))
      | (show AOp _ _ ⟨_, .store _ _ _, _, _, _, _⟩ _ _ _; first | refine Bc (α := Nat) 0 hG Y Y Y Ah Bb Y Y (by first | omega | (simp only [Array.size_setIfInBounds]; omega)) ?_ | refine Bc (α := Nat) 1 hG Y Y Y Ah Bb Y Y (by first | omega | (simp only [Array.size_setIfInBounds]; omega)) ?_ | refine Bv 0 hG Y Y Y Y Y Y Y ?_ | refine Bv 1 hG Y Y Y Y Y Y Y ?_)
      | (show AOp _ _ ⟨_, .call ⟨.builtin .append, _, _⟩, _, _, _, _⟩ _ _ _; first | refine Bo (sz := 1) (xs := []) hG Y Y Y Y Y Y Y ⟨_, Y⟩ Y Y Y Y Y Y Y (by first | omega | (simp; omega)) (fun k => ?_) | refine Bp 0 hG Y Y Y Y Y Y Y ⟨_, Y⟩ Y Y Y Y Y (by first | omega | (simp only [List.length_append, List.length_cons, List.length_nil]; omega)) (fun k => ?_) | fail)
      | refine r_q hG Y Y Y ?_))
    | (show AL _ _ _ _ _ _ _ _; first | refine Bk Y Y Y ?_ | (refine Ar ?_; first | show AW _ _ _ _ _ _ | show ∃ x', _ < _ ∧ _)) | (show AW _ _ (.seq _ _) _ _ _; refine Ai ?_; intro Q1) | (show AW _ _ (.region _ _ false) _ _ _; refine Ad ?_; intro O1) | (show AW _ _ (.cond _ _ _) _ _ _; first | refine Ao Y ?_ | refine Ap Y ?_ | refine Ba Y (fun h => ?_) (fun h => ?_)) | (show AW _ _ (.skip) _ _ _; refine Aj ?_; first | show AW _ _ _ _ _ _ | show ∃ x', _ < _ ∧ _) | (show AW _ _ (.block _ _) _ _ _; refine Ae ?_; intro Q1) | (show AW _ _ (.exit _) _ _ _; refine Al ?_; first | show AW _ _ _ _ _ _ | show ∃ x', _ < _ ∧ _) | (show AW _ _ (.goto _) _ _ _; refine Ci ?_; try dsimp only [Ax, Aa, A2, Af]) | (show AW _ _ (.ret) _ _ _; refine Aw ?_; try dsimp only [Ax, Aa, A2, Af]) | fail)
    refine Ag rfl ?_
    refine aop_makeMap hG rfl rfl (fun mi hmi => ?_)
    repeat' (first
    | ((show AL _ _ _ _ _ _ _ _; refine Ag Y ?_); (first
      | refine Aq hG Y Y ?_
      | refine A5 hG Y Y ?_
      | (show AOp _ _ ⟨_, .call ⟨.builtin .len, _, _⟩, _, _, _, _⟩ _ _ _; first | refine Bh hG Y Y Y Y ?_ | refine Bq hG Y Y Y Y Y ?_)
      | (show AOp _ _ ⟨_, .lookup _ _ _ _, _, _, _, _⟩ _ _ _; first | refine r_lookF hG Y Y Y Y Y Y Y Y Y ?_ | refine Cq hG Y Y Y Y Y Y Y Y Y ?_ | refine Bz (n := 0) hG Y Y Y Y Y Y Y Y Y Y ?_ | refine Bz (n := 1) hG Y Y Y Y Y Y Y Y Y Y ?_)
      | (show AOp _ _ ⟨_, .mapUpdate _ _ _ _, _, _, _, _⟩ _ _ _; first | refine B7 0 hG Y Y Y Y Y Y Y Y ?_ | refine B7 1 hG Y Y Y Y Y Y Y Y ?_)
      | (show AOp _ _ ⟨_, .binOp .add _ _ _ _, _, _, _, _⟩ _ _ _; first | refine Ac hG Y Y Y Y Y (by omega) ?_ | refine Ac (m := 1) hG Y Y Y Y Y (by omega) ?_ | refine Ab hG Y Y Y Y Y (by omega) ?_)
      | (show AOp _ _ ⟨_, .binOp _ _ _ _ _, _, _, _, _⟩ _ _ _; first | refine At hG Y Y Y Y Y (by omega) ?_ | refine Au hG Y Y Y Y Y (by omega) ?_ | (refine Am hG Y Y Y Y Y (fun h => ?_) (fun h => ?_)))
      | (show AOp _ _ ⟨_, .load _ _, _, _, _, _⟩ _ _ _; first | refine Ak (α := Nat) 0 hG Y Y Y Y (by omega) Y ?_ | refine Ak (α := Nat) 1 hG Y Y Y Y (by omega) Y ?_ | refine Ay hG Y Y Y ?_ | refine Bg 0 hG Y Y Y Y ?_ | refine Bg 1 hG Y Y Y Y ?_)
      | (show AOp _ _ ⟨_, .indexAddr _ _ _, _, _, _, _⟩ _ _ _; first | refine A1 hG Y Y Y Y Y Y Y (by omega) ?_ | refine A0 hG Y Y Y Y Y Y Y (by omega) ?_ | refine Az hG Y Y Y Y Y Y Y (by omega) ?_ | refine A9 hG Y Y ?_)
      | refine A6 hG Y Y Y ?_
      | (show AOp _ _ ⟨_, .buildSlice _ _ _, _, _, _, _⟩ _ _ _; first | refine r_mk (sz := 1) hG Y Y Y Y Y Y Y ?_)
      | (show AOp _ _ ⟨_, .alloc _, _, _, _, _⟩ _ _ _; refine Ce hG Y Y (fun i => ?_))
      | (show AOp _ _ ⟨_, .store _ _ _, _, _, _, _⟩ _ _ _; first | refine Bc (α := Nat) 0 hG Y Y Y Ah Bb Y Y (by first | omega | (simp only [Array.size_setIfInBounds]; omega)) ?_ | refine Bc (α := Nat) 1 hG Y Y Y Ah Bb Y Y (by first | omega | (simp only [Array.size_setIfInBounds]; omega)) ?_ | refine Bv 0 hG Y Y Y Y Y Y Y ?_ | refine Bv 1 hG Y Y Y Y Y Y Y ?_)
      | (show AOp _ _ ⟨_, .call ⟨.builtin .append, _, _⟩, _, _, _, _⟩ _ _ _; first | refine Bo (sz := 1) (xs := []) hG Y Y Y Y Y Y Y ⟨_, Y⟩ Y Y Y Y Y Y Y (by first | omega | (simp; omega)) (fun k => ?_) | refine Bp 0 hG Y Y Y Y Y Y Y ⟨_, Y⟩ Y Y Y Y Y (by first | omega | (simp only [List.length_append, List.length_cons, List.length_nil]; omega)) (fun k => ?_) | fail)
      | refine r_q hG Y Y Y ?_))
    | (show AL _ _ _ _ _ _ _ _; first | refine Bk Y Y Y ?_ | (refine Ar ?_; first | show AW _ _ _ _ _ _ | show ∃ x', _ < _ ∧ _)) | (show AW _ _ (.seq _ _) _ _ _; refine Ai ?_; intro Q1) | (show AW _ _ (.region _ _ false) _ _ _; refine Ad ?_; intro O1) | (show AW _ _ (.cond _ _ _) _ _ _; first | refine Ao Y ?_ | refine Ap Y ?_ | refine Ba Y (fun h => ?_) (fun h => ?_)) | (show AW _ _ (.skip) _ _ _; refine Aj ?_; first | show AW _ _ _ _ _ _ | show ∃ x', _ < _ ∧ _) | (show AW _ _ (.block _ _) _ _ _; refine Ae ?_; intro Q1) | (show AW _ _ (.exit _) _ _ _; refine Al ?_; first | show AW _ _ _ _ _ _ | show ∃ x', _ < _ ∧ _) | (show AW _ _ (.goto _) _ _ _; refine Ci ?_; try dsimp only [Ax, Aa, A2, Af]) | (show AW _ _ (.ret) _ _ _; refine Aw ?_; try dsimp only [Ax, Aa, A2, Af]) | fail)
    refine Ch (X := KdX l) (fun x => [(3, .map (some mi)), (14, .sl 13 .no (l.map oT)), (15, .int .i64 (l.length : Int)), (16, .int .i64 (x.i : Int))]) (fun x => ⟨[(mi, .map ((kinds (l.take x.i)).map kvT))], [], off, none⟩) (fun x => l.length - x.i) ⟨0, Nat.zero_le _⟩ (by repeat (first | exact .nil _ | refine .cons rfl ?_)) (.refl _) ?_
    rintro ⟨q, hi⟩
    dsimp only
    by_cases hil : q < l.length
    · have hks := kinds_succ hil
      generalize kinds (l.take q) = m at *
      have hid := (l.getD q default).hid
      have hM := name_May hid
      have hsc : (notRaw (oT (l.getD q default)) && (oT (l.getD q default)).cells.all T.scalar) = true := by
        have := (l.getD q default).hs
        simp only [oT, T.cells, notRaw, List.all_cons, T.scalar, Bool.true_and] at this ⊢
        exact this
      have eM : ∃ b, (nm 6 (l.getD q default).id).isSome = b := ⟨_, rfl⟩
      obtain ⟨b, eb⟩ := eM
      rw [eb] at hM
      unfold kstep at hks
      rw [eb] at hks
      cases b with
      | false =>
        rw [if_neg (by simp)] at hks
        repeat' (first
    | ((show AL _ _ _ _ _ _ _ _; refine Ag Y ?_); (first
      | refine Aq hG Y Y ?_
      | refine A5 hG Y Y ?_
      | (show AOp _ _ ⟨_, .call ⟨.builtin .len, _, _⟩, _, _, _, _⟩ _ _ _; first | refine Bh hG Y Y Y Y ?_ | refine Bq hG Y Y Y Y Y ?_)
      | (show AOp _ _ ⟨_, .lookup _ _ _ _, _, _, _, _⟩ _ _ _; first | refine r_lookF hG Y Y Y Y Y Y Y Y Y ?_ | refine Cq hG Y Y Y Y Y Y Y Y Y ?_ | refine Bz (n := 0) hG Y Y Y Y Y Y Y Y Y Y ?_ | refine Bz (n := 1) hG Y Y Y Y Y Y Y Y Y Y ?_)
      | (show AOp _ _ ⟨_, .mapUpdate _ _ _ _, _, _, _, _⟩ _ _ _; first | refine B7 0 hG Y Y Y Y Y Y Y Y ?_ | refine B7 1 hG Y Y Y Y Y Y Y Y ?_)
      | (show AOp _ _ ⟨_, .binOp .add _ _ _ _, _, _, _, _⟩ _ _ _; first | refine Ac hG Y Y Y Y Y (by omega) ?_ | refine Ac (m := 1) hG Y Y Y Y Y (by omega) ?_ | refine Ab hG Y Y Y Y Y (by omega) ?_)
      | (show AOp _ _ ⟨_, .binOp _ _ _ _ _, _, _, _, _⟩ _ _ _; first | refine At hG Y Y Y Y Y (by omega) ?_ | refine Au hG Y Y Y Y Y (by omega) ?_ | (refine Am hG Y Y Y Y Y (fun h => ?_) (fun h => ?_)))
      | (show AOp _ _ ⟨_, .load _ _, _, _, _, _⟩ _ _ _; first | refine Ak (α := Nat) 0 hG Y Y Y Y (by omega) Y ?_ | refine Ak (α := Nat) 1 hG Y Y Y Y (by omega) Y ?_ | refine Ay hG Y Y Y ?_ | refine Bg 0 hG Y Y Y Y ?_ | refine Bg 1 hG Y Y Y Y ?_)
      | (show AOp _ _ ⟨_, .indexAddr _ _ _, _, _, _, _⟩ _ _ _; first | refine A1 hG Y Y Y Y Y Y Y (by omega) ?_ | refine A0 hG Y Y Y Y Y Y Y (by omega) ?_ | refine Az hG Y Y Y Y Y Y Y (by omega) ?_ | refine A9 hG Y Y ?_)
      | refine A6 hG Y Y Y ?_
      | (show AOp _ _ ⟨_, .buildSlice _ _ _, _, _, _, _⟩ _ _ _; first | refine r_mk (sz := 1) hG Y Y Y Y Y Y Y ?_)
      | (show AOp _ _ ⟨_, .alloc _, _, _, _, _⟩ _ _ _; refine Ce hG Y Y (fun i => ?_))
      | (show AOp _ _ ⟨_, .store _ _ _, _, _, _, _⟩ _ _ _; fail)
      | (show AOp _ _ ⟨_, .call ⟨.builtin .append, _, _⟩, _, _, _, _⟩ _ _ _; first | refine Bo (sz := 1) (xs := []) hG Y Y Y Y Y Y Y ⟨_, Y⟩ Y Y Y Y Y Y Y (by first | omega | (simp; omega)) (fun k => ?_) | refine Bp 0 hG Y Y Y Y Y Y Y ⟨_, Y⟩ Y Y Y Y Y (by first | omega | (simp only [List.length_append, List.length_cons, List.length_nil]; omega)) (fun k => ?_) | fail)
      | refine r_q hG Y Y Y ?_))
    | (show AL _ _ _ _ _ _ _ _; first | refine Bk Y Y Y ?_ | (refine Ar ?_; first | show AW _ _ _ _ _ _ | show ∃ x', _ < _ ∧ _)) | (show AW _ _ (.seq _ _) _ _ _; refine Ai ?_; intro Q1) | (show AW _ _ (.region _ _ false) _ _ _; refine Ad ?_; intro O1) | (show AW _ _ (.cond _ _ _) _ _ _; first | refine Ao Y ?_ | refine Ap Y ?_ | refine Ba Y (fun h => ?_) (fun h => ?_)) | (show AW _ _ (.skip) _ _ _; refine Aj ?_; first | show AW _ _ _ _ _ _ | show ∃ x', _ < _ ∧ _) | (show AW _ _ (.block _ _) _ _ _; refine Ae ?_; intro Q1) | (show AW _ _ (.exit _) _ _ _; refine Al ?_; first | show AW _ _ _ _ _ _ | show ∃ x', _ < _ ∧ _) | (show AW _ _ (.goto _) _ _ _; refine Ci ?_; try dsimp only [Ax, Aa, A2, Af]) | (show AW _ _ (.ret) _ _ _; refine Aw ?_; try dsimp only [Ax, Aa, A2, Af]) | fail)
        refine Ag rfl ?_
        refine Bv 0 (u := oT (l.getD q default)) hG rfl rfl rfl hsc rfl rfl rfl ?_
        repeat' (first
    | ((show AL _ _ _ _ _ _ _ _; refine Ag Y ?_); (first
      | refine Aq hG Y Y ?_
      | refine A5 hG Y Y ?_
      | (show AOp _ _ ⟨_, .call ⟨.builtin .len, _, _⟩, _, _, _, _⟩ _ _ _; first | refine Bh hG Y Y Y Y ?_ | refine Bq hG Y Y Y Y Y ?_)
      | (show AOp _ _ ⟨_, .lookup _ _ _ _, _, _, _, _⟩ _ _ _; first | refine r_lookF hG Y Y Y Y Y Y Y Y Y ?_ | refine Cq hG Y Y Y Y Y Y Y Y Y ?_ | refine Bz (n := 0) hG Y Y Y Y Y Y Y Y Y Y ?_ | refine Bz (n := 1) hG Y Y Y Y Y Y Y Y Y Y ?_)
      | (show AOp _ _ ⟨_, .mapUpdate _ _ _ _, _, _, _, _⟩ _ _ _; first | refine B7 0 hG Y Y Y Y Y Y Y Y ?_ | refine B7 1 hG Y Y Y Y Y Y Y Y ?_)
      | (show AOp _ _ ⟨_, .binOp .add _ _ _ _, _, _, _, _⟩ _ _ _; first | refine Ac hG Y Y Y Y Y (by omega) ?_ | refine Ac (m := 1) hG Y Y Y Y Y (by omega) ?_ | refine Ab hG Y Y Y Y Y (by omega) ?_)
      | (show AOp _ _ ⟨_, .binOp _ _ _ _ _, _, _, _, _⟩ _ _ _; first | refine At hG Y Y Y Y Y (by omega) ?_ | refine Au hG Y Y Y Y Y (by omega) ?_ | (refine Am hG Y Y Y Y Y (fun h => ?_) (fun h => ?_)))
      | (show AOp _ _ ⟨_, .load _ _, _, _, _, _⟩ _ _ _; first | refine Ak (α := Nat) 0 hG Y Y Y Y (by omega) Y ?_ | refine Ak (α := Nat) 1 hG Y Y Y Y (by omega) Y ?_ | refine Ay hG Y Y Y ?_ | refine Bg 0 hG Y Y Y Y ?_ | refine Bg 1 hG Y Y Y Y ?_)
      | (show AOp _ _ ⟨_, .indexAddr _ _ _, _, _, _, _⟩ _ _ _; first | refine A1 hG Y Y Y Y Y Y Y (by omega) ?_ | refine A0 hG Y Y Y Y Y Y Y (by omega) ?_ | refine Az hG Y Y Y Y Y Y Y (by omega) ?_ | refine A9 hG Y Y ?_)
      | refine A6 hG Y Y Y ?_
      | (show AOp _ _ ⟨_, .buildSlice _ _ _, _, _, _, _⟩ _ _ _; first | refine r_mk (sz := 1) hG Y Y Y Y Y Y Y ?_)
      | (show AOp _ _ ⟨_, .alloc _, _, _, _, _⟩ _ _ _; refine Ce hG Y Y (fun i => ?_))
      | (show AOp _ _ ⟨_, .store _ _ _, _, _, _, _⟩ _ _ _; first | refine Bc (α := Nat) 0 hG Y Y Y Ah Bb Y Y (by first | omega | (simp only [Array.size_setIfInBounds]; omega)) ?_ | refine Bc (α := Nat) 1 hG Y Y Y Ah Bb Y Y (by first | omega | (simp only [Array.size_setIfInBounds]; omega)) ?_ | refine Bv 0 hG Y Y Y Y Y Y Y ?_ | refine Bv 1 hG Y Y Y Y Y Y Y ?_)
      | (show AOp _ _ ⟨_, .call ⟨.builtin .append, _, _⟩, _, _, _, _⟩ _ _ _; first | refine Bo (sz := 1) (xs := []) hG Y Y Y Y Y Y Y ⟨_, Y⟩ Y Y Y Y Y Y Y (by first | omega | (simp; omega)) (fun k => ?_) | refine Bp 0 hG Y Y Y Y Y Y Y ⟨_, Y⟩ Y Y Y Y Y (by first | omega | (simp only [List.length_append, List.length_cons, List.length_nil]; omega)) (fun k => ?_) | fail)
      | (show AOp _ _ ⟨_, .call ⟨.value _, _, _⟩, _, _, _, _⟩ _ _ _; first | refine Bn Y Y Y Y Y (by first | (apply hM <;> (first | assumption | omega | exact A4 _ _ | exact Bd _ | exact A7 _ _ | exact Bi _ | rfl | (simp; omega))) | fail) ?_ | fail)
      | refine r_q hG Y Y Y ?_))
    | (show AL _ _ _ _ _ _ _ _; first | refine Bk Y Y Y ?_ | (refine Ar ?_; first | show AW _ _ _ _ _ _ | show ∃ x', _ < _ ∧ _)) | (show AW _ _ (.seq _ _) _ _ _; refine Ai ?_; intro Q1) | (show AW _ _ (.region _ _ false) _ _ _; refine Ad ?_; intro O1) | (show AW _ _ (.cond _ _ _) _ _ _; first | refine Ao Y ?_ | refine Ap Y ?_ | refine Ba Y (fun h => ?_) (fun h => ?_)) | (show AW _ _ (.skip) _ _ _; refine Aj ?_; first | show AW _ _ _ _ _ _ | show ∃ x', _ < _ ∧ _) | (show AW _ _ (.block _ _) _ _ _; refine Ae ?_; intro Q1) | (show AW _ _ (.exit _) _ _ _; refine Al ?_; first | show AW _ _ _ _ _ _ | show ∃ x', _ < _ ∧ _) | (show AW _ _ (.goto _) _ _ _; refine Ci ?_; try dsimp only [Ax, Aa, A2, Af]) | (show AW _ _ (.ret) _ _ _; refine Aw ?_; try dsimp only [Ax, Aa, A2, Af]) | fail)
        exact ⟨⟨q + 1, by omega⟩, by dsimp only; omega, (by repeat (first | exact .nil _ | refine .cons rfl ?_)), by
          dsimp only; rw [hks]
          exact keep_step (L' := [(mi, .map ((m).map kvT))]) (R' := []) (List.sublist_cons_self _ _) (List.nil_sublist _)⟩
      | true =>
        by_cases hk : klook m (l.getD q default).id = 1
        · rw [if_neg (by rintro ⟨_, h⟩; exact h hk)] at hks
          repeat' (first
    | ((show AL _ _ _ _ _ _ _ _; refine Ag Y ?_); (first
      | refine Aq hG Y Y ?_
      | refine A5 hG Y Y ?_
      | (show AOp _ _ ⟨_, .call ⟨.builtin .len, _, _⟩, _, _, _, _⟩ _ _ _; first | refine Bh hG Y Y Y Y ?_ | refine Bq hG Y Y Y Y Y ?_)
      | (show AOp _ _ ⟨_, .lookup _ _ _ _, _, _, _, _⟩ _ _ _; first | refine r_lookF hG Y Y Y Y Y Y Y Y Y ?_ | refine Cq hG Y Y Y Y Y Y Y Y Y ?_ | refine Bz (n := 0) hG Y Y Y Y Y Y Y Y Y Y ?_ | refine Bz (n := 1) hG Y Y Y Y Y Y Y Y Y Y ?_)
      | (show AOp _ _ ⟨_, .mapUpdate _ _ _ _, _, _, _, _⟩ _ _ _; first | refine B7 0 hG Y Y Y Y Y Y Y Y ?_ | refine B7 1 hG Y Y Y Y Y Y Y Y ?_)
      | (show AOp _ _ ⟨_, .binOp .add _ _ _ _, _, _, _, _⟩ _ _ _; first | refine Ac hG Y Y Y Y Y (by omega) ?_ | refine Ac (m := 1) hG Y Y Y Y Y (by omega) ?_ | refine Ab hG Y Y Y Y Y (by omega) ?_)
      | (show AOp _ _ ⟨_, .binOp _ _ _ _ _, _, _, _, _⟩ _ _ _; first | refine At hG Y Y Y Y Y (by omega) ?_ | refine Au hG Y Y Y Y Y (by omega) ?_ | (refine Am hG Y Y Y Y Y (fun h => ?_) (fun h => ?_)))
      | (show AOp _ _ ⟨_, .load _ _, _, _, _, _⟩ _ _ _; first | refine Ak (α := Nat) 0 hG Y Y Y Y (by omega) Y ?_ | refine Ak (α := Nat) 1 hG Y Y Y Y (by omega) Y ?_ | refine Ay hG Y Y Y ?_ | refine Bg 0 hG Y Y Y Y ?_ | refine Bg 1 hG Y Y Y Y ?_)
      | (show AOp _ _ ⟨_, .indexAddr _ _ _, _, _, _, _⟩ _ _ _; first | refine A1 hG Y Y Y Y Y Y Y (by omega) ?_ | refine A0 hG Y Y Y Y Y Y Y (by omega) ?_ | refine Az hG Y Y Y Y Y Y Y (by omega) ?_ | refine A9 hG Y Y ?_)
      | refine A6 hG Y Y Y ?_
      | (show AOp _ _ ⟨_, .buildSlice _ _ _, _, _, _, _⟩ _ _ _; first | refine r_mk (sz := 1) hG Y Y Y Y Y Y Y ?_)
      | (show AOp _ _ ⟨_, .alloc _, _, _, _, _⟩ _ _ _; refine Ce hG Y Y (fun i => ?_))
      | (show AOp _ _ ⟨_, .store _ _ _, _, _, _, _⟩ _ _ _; fail)
      | (show AOp _ _ ⟨_, .call ⟨.builtin .append, _, _⟩, _, _, _, _⟩ _ _ _; first | refine Bo (sz := 1) (xs := []) hG Y Y Y Y Y Y Y ⟨_, Y⟩ Y Y Y Y Y Y Y (by first | omega | (simp; omega)) (fun k => ?_) | refine Bp 0 hG Y Y Y Y Y Y Y ⟨_, Y⟩ Y Y Y Y Y (by first | omega | (simp only [List.length_append, List.length_cons, List.length_nil]; omega)) (fun k => ?_) | fail)
      | refine r_q hG Y Y Y ?_))
    | (show AL _ _ _ _ _ _ _ _; first | refine Bk Y Y Y ?_ | (refine Ar ?_; first | show AW _ _ _ _ _ _ | show ∃ x', _ < _ ∧ _)) | (show AW _ _ (.seq _ _) _ _ _; refine Ai ?_; intro Q1) | (show AW _ _ (.region _ _ false) _ _ _; refine Ad ?_; intro O1) | (show AW _ _ (.cond _ _ _) _ _ _; first | refine Ao Y ?_ | refine Ap Y ?_ | refine Ba Y (fun h => ?_) (fun h => ?_)) | (show AW _ _ (.skip) _ _ _; refine Aj ?_; first | show AW _ _ _ _ _ _ | show ∃ x', _ < _ ∧ _) | (show AW _ _ (.block _ _) _ _ _; refine Ae ?_; intro Q1) | (show AW _ _ (.exit _) _ _ _; refine Al ?_; first | show AW _ _ _ _ _ _ | show ∃ x', _ < _ ∧ _) | (show AW _ _ (.goto _) _ _ _; refine Ci ?_; try dsimp only [Ax, Aa, A2, Af]) | (show AW _ _ (.ret) _ _ _; refine Aw ?_; try dsimp only [Ax, Aa, A2, Af]) | fail)
          refine Ag rfl ?_
          refine Bv 0 (u := oT (l.getD q default)) hG rfl rfl rfl hsc rfl rfl rfl ?_
          repeat' (first
    | ((show AL _ _ _ _ _ _ _ _; refine Ag Y ?_); (first
      | refine Aq hG Y Y ?_
      | refine A5 hG Y Y ?_
      | (show AOp _ _ ⟨_, .call ⟨.builtin .len, _, _⟩, _, _, _, _⟩ _ _ _; first | refine Bh hG Y Y Y Y ?_ | refine Bq hG Y Y Y Y Y ?_)
      | (show AOp _ _ ⟨_, .lookup _ _ _ _, _, _, _, _⟩ _ _ _; first | refine r_lookF hG Y Y Y Y Y Y Y Y Y ?_ | refine Cq hG Y Y Y Y Y Y Y Y Y ?_ | refine Bz (n := 0) hG Y Y Y Y Y Y Y Y Y Y ?_ | refine Bz (n := 1) hG Y Y Y Y Y Y Y Y Y Y ?_)
      | (show AOp _ _ ⟨_, .mapUpdate _ _ _ _, _, _, _, _⟩ _ _ _; first | refine B7 0 hG Y Y Y Y Y Y Y Y ?_ | refine B7 1 hG Y Y Y Y Y Y Y Y ?_)
      | (show AOp _ _ ⟨_, .binOp .add _ _ _ _, _, _, _, _⟩ _ _ _; first | refine Ac hG Y Y Y Y Y (by omega) ?_ | refine Ac (m := 1) hG Y Y Y Y Y (by omega) ?_ | refine Ab hG Y Y Y Y Y (by omega) ?_)
      | (show AOp _ _ ⟨_, .binOp _ _ _ _ _, _, _, _, _⟩ _ _ _; first | refine At hG Y Y Y Y Y (by omega) ?_ | refine Au hG Y Y Y Y Y (by omega) ?_ | (refine Am hG Y Y Y Y Y (fun h => ?_) (fun h => ?_)))
      | (show AOp _ _ ⟨_, .load _ _, _, _, _, _⟩ _ _ _; first | refine Ak (α := Nat) 0 hG Y Y Y Y (by omega) Y ?_ | refine Ak (α := Nat) 1 hG Y Y Y Y (by omega) Y ?_ | refine Ay hG Y Y Y ?_ | refine Bg 0 hG Y Y Y Y ?_ | refine Bg 1 hG Y Y Y Y ?_)
      | (show AOp _ _ ⟨_, .indexAddr _ _ _, _, _, _, _⟩ _ _ _; first | refine A1 hG Y Y Y Y Y Y Y (by omega) ?_ | refine A0 hG Y Y Y Y Y Y Y (by omega) ?_ | refine Az hG Y Y Y Y Y Y Y (by omega) ?_ | refine A9 hG Y Y ?_)
      | refine A6 hG Y Y Y ?_
      | (show AOp _ _ ⟨_, .buildSlice _ _ _, _, _, _, _⟩ _ _ _; first | refine r_mk (sz := 1) hG Y Y Y Y Y Y Y ?_)
      | (show AOp _ _ ⟨_, .alloc _, _, _, _, _⟩ _ _ _; refine Ce hG Y Y (fun i => ?_))
      | (show AOp _ _ ⟨_, .store _ _ _, _, _, _, _⟩ _ _ _; first | refine Bc (α := Nat) 0 hG Y Y Y Ah Bb Y Y (by first | omega | (simp only [Array.size_setIfInBounds]; omega)) ?_ | refine Bc (α := Nat) 1 hG Y Y Y Ah Bb Y Y (by first | omega | (simp only [Array.size_setIfInBounds]; omega)) ?_ | refine Bv 0 hG Y Y Y Y Y Y Y ?_ | refine Bv 1 hG Y Y Y Y Y Y Y ?_)
      | (show AOp _ _ ⟨_, .call ⟨.builtin .append, _, _⟩, _, _, _, _⟩ _ _ _; first | refine Bo (sz := 1) (xs := []) hG Y Y Y Y Y Y Y ⟨_, Y⟩ Y Y Y Y Y Y Y (by first | omega | (simp; omega)) (fun k => ?_) | refine Bp 0 hG Y Y Y Y Y Y Y ⟨_, Y⟩ Y Y Y Y Y (by first | omega | (simp only [List.length_append, List.length_cons, List.length_nil]; omega)) (fun k => ?_) | fail)
      | (show AOp _ _ ⟨_, .call ⟨.value _, _, _⟩, _, _, _, _⟩ _ _ _; first | refine Bn Y Y Y Y Y (by first | (apply hM <;> (first | assumption | omega | exact A4 _ _ | exact Bd _ | exact A7 _ _ | exact Bi _ | rfl | (simp; omega))) | fail) ?_ | fail)
      | refine r_q hG Y Y Y ?_))
    | (show AL _ _ _ _ _ _ _ _; first | refine Bk Y Y Y ?_ | (refine Ar ?_; first | show AW _ _ _ _ _ _ | show ∃ x', _ < _ ∧ _)) | (show AW _ _ (.seq _ _) _ _ _; refine Ai ?_; intro Q1) | (show AW _ _ (.region _ _ false) _ _ _; refine Ad ?_; intro O1) | (show AW _ _ (.cond _ _ _) _ _ _; first | refine Ao Y ?_ | refine Ap Y ?_ | refine Ba Y (fun h => ?_) (fun h => ?_)) | (show AW _ _ (.skip) _ _ _; refine Aj ?_; first | show AW _ _ _ _ _ _ | show ∃ x', _ < _ ∧ _) | (show AW _ _ (.block _ _) _ _ _; refine Ae ?_; intro Q1) | (show AW _ _ (.exit _) _ _ _; refine Al ?_; first | show AW _ _ _ _ _ _ | show ∃ x', _ < _ ∧ _) | (show AW _ _ (.goto _) _ _ _; refine Ci ?_; try dsimp only [Ax, Aa, A2, Af]) | (show AW _ _ (.ret) _ _ _; refine Aw ?_; try dsimp only [Ax, Aa, A2, Af]) | fail)
          exact ⟨⟨q + 1, by omega⟩, by dsimp only; omega, (by repeat (first | exact .nil _ | refine .cons rfl ?_)), by
            dsimp only; rw [hks]
            exact keep_step (L' := [(mi, .map ((m).map kvT))]) (R' := []) (List.sublist_cons_self _ _) (List.nil_sublist _)⟩
        · rw [if_pos ⟨rfl, hk⟩] at hks
          repeat' (first
    | ((show AL _ _ _ _ _ _ _ _; refine Ag Y ?_); (first
      | refine Aq hG Y Y ?_
      | refine A5 hG Y Y ?_
      | (show AOp _ _ ⟨_, .call ⟨.builtin .len, _, _⟩, _, _, _, _⟩ _ _ _; first | refine Bh hG Y Y Y Y ?_ | refine Bq hG Y Y Y Y Y ?_)
      | (show AOp _ _ ⟨_, .lookup _ _ _ _, _, _, _, _⟩ _ _ _; first | refine r_lookF hG Y Y Y Y Y Y Y Y Y ?_ | refine Cq hG Y Y Y Y Y Y Y Y Y ?_ | refine Bz (n := 0) hG Y Y Y Y Y Y Y Y Y Y ?_ | refine Bz (n := 1) hG Y Y Y Y Y Y Y Y Y Y ?_)
      | (show AOp _ _ ⟨_, .mapUpdate _ _ _ _, _, _, _, _⟩ _ _ _; first | refine B7 0 hG Y Y Y Y Y Y Y Y ?_ | refine B7 1 hG Y Y Y Y Y Y Y Y ?_)
      | (show AOp _ _ ⟨_, .binOp .add _ _ _ _, _, _, _, _⟩ _ _ _; first | refine Ac hG Y Y Y Y Y (by omega) ?_ | refine Ac (m := 1) hG Y Y Y Y Y (by omega) ?_ | refine Ab hG Y Y Y Y Y (by omega) ?_)
      | (show AOp _ _ ⟨_, .binOp _ _ _ _ _, _, _, _, _⟩ _ _ _; first | refine At hG Y Y Y Y Y (by omega) ?_ | refine Au hG Y Y Y Y Y (by omega) ?_ | (refine Am hG Y Y Y Y Y (fun h => ?_) (fun h => ?_)))
      | (show AOp _ _ ⟨_, .load _ _, _, _, _, _⟩ _ _ _; first | refine Ak (α := Nat) 0 hG Y Y Y Y (by omega) Y ?_ | refine Ak (α := Nat) 1 hG Y Y Y Y (by omega) Y ?_ | refine Ay hG Y Y Y ?_ | refine Bg 0 hG Y Y Y Y ?_ | refine Bg 1 hG Y Y Y Y ?_)
      | (show AOp _ _ ⟨_, .indexAddr _ _ _, _, _, _, _⟩ _ _ _; first | refine A1 hG Y Y Y Y Y Y Y (by omega) ?_ | refine A0 hG Y Y Y Y Y Y Y (by omega) ?_ | refine Az hG Y Y Y Y Y Y Y (by omega) ?_ | refine A9 hG Y Y ?_)
      | refine A6 hG Y Y Y ?_
      | (show AOp _ _ ⟨_, .buildSlice _ _ _, _, _, _, _⟩ _ _ _; first | refine r_mk (sz := 1) hG Y Y Y Y Y Y Y ?_)
      | (show AOp _ _ ⟨_, .alloc _, _, _, _, _⟩ _ _ _; refine Ce hG Y Y (fun i => ?_))
      | (show AOp _ _ ⟨_, .store _ _ _, _, _, _, _⟩ _ _ _; fail)
      | (show AOp _ _ ⟨_, .call ⟨.builtin .append, _, _⟩, _, _, _, _⟩ _ _ _; first | refine Bo (sz := 1) (xs := []) hG Y Y Y Y Y Y Y ⟨_, Y⟩ Y Y Y Y Y Y Y (by first | omega | (simp; omega)) (fun k => ?_) | refine Bp 0 hG Y Y Y Y Y Y Y ⟨_, Y⟩ Y Y Y Y Y (by first | omega | (simp only [List.length_append, List.length_cons, List.length_nil]; omega)) (fun k => ?_) | fail)
      | refine r_q hG Y Y Y ?_))
    | (show AL _ _ _ _ _ _ _ _; first | refine Bk Y Y Y ?_ | (refine Ar ?_; first | show AW _ _ _ _ _ _ | show ∃ x', _ < _ ∧ _)) | (show AW _ _ (.seq _ _) _ _ _; refine Ai ?_; intro Q1) | (show AW _ _ (.region _ _ false) _ _ _; refine Ad ?_; intro O1) | (show AW _ _ (.cond _ _ _) _ _ _; first | refine Ao Y ?_ | refine Ap Y ?_ | refine Ba Y (fun h => ?_) (fun h => ?_)) | (show AW _ _ (.skip) _ _ _; refine Aj ?_; first | show AW _ _ _ _ _ _ | show ∃ x', _ < _ ∧ _) | (show AW _ _ (.block _ _) _ _ _; refine Ae ?_; intro Q1) | (show AW _ _ (.exit _) _ _ _; refine Al ?_; first | show AW _ _ _ _ _ _ | show ∃ x', _ < _ ∧ _) | (show AW _ _ (.goto _) _ _ _; refine Ci ?_; try dsimp only [Ax, Aa, A2, Af]) | (show AW _ _ (.ret) _ _ _; refine Aw ?_; try dsimp only [Ax, Aa, A2, Af]) | fail)
          refine Ag rfl ?_
          refine Bv 0 (u := oT (l.getD q default)) hG rfl rfl rfl hsc rfl rfl rfl ?_
          repeat' (first
    | ((show AL _ _ _ _ _ _ _ _; refine Ag Y ?_); (first
      | refine Aq hG Y Y ?_
      | refine A5 hG Y Y ?_
      | (show AOp _ _ ⟨_, .call ⟨.builtin .len, _, _⟩, _, _, _, _⟩ _ _ _; first | refine Bh hG Y Y Y Y ?_ | refine Bq hG Y Y Y Y Y ?_)
      | (show AOp _ _ ⟨_, .lookup _ _ _ _, _, _, _, _⟩ _ _ _; first | refine r_lookF hG Y Y Y Y Y Y Y Y Y ?_ | refine Cq hG Y Y Y Y Y Y Y Y Y ?_ | refine Bz (n := 0) hG Y Y Y Y Y Y Y Y Y Y ?_ | refine Bz (n := 1) hG Y Y Y Y Y Y Y Y Y Y ?_)
      | (show AOp _ _ ⟨_, .mapUpdate _ _ _ _, _, _, _, _⟩ _ _ _; first | refine B7 0 hG Y Y Y Y Y Y Y Y ?_ | refine B7 1 hG Y Y Y Y Y Y Y Y ?_)
      | (show AOp _ _ ⟨_, .binOp .add _ _ _ _, _, _, _, _⟩ _ _ _; first | refine Ac hG Y Y Y Y Y (by omega) ?_ | refine Ac (m := 1) hG Y Y Y Y Y (by omega) ?_ | refine Ab hG Y Y Y Y Y (by omega) ?_)
      | (show AOp _ _ ⟨_, .binOp _ _ _ _ _, _, _, _, _⟩ _ _ _; first | refine At hG Y Y Y Y Y (by omega) ?_ | refine Au hG Y Y Y Y Y (by omega) ?_ | (refine Am hG Y Y Y Y Y (fun h => ?_) (fun h => ?_)))
      | (show AOp _ _ ⟨_, .load _ _, _, _, _, _⟩ _ _ _; first | refine Ak (α := Nat) 0 hG Y Y Y Y (by omega) Y ?_ | refine Ak (α := Nat) 1 hG Y Y Y Y (by omega) Y ?_ | refine Ay hG Y Y Y ?_ | refine Bg 0 hG Y Y Y Y ?_ | refine Bg 1 hG Y Y Y Y ?_)
      | (show AOp _ _ ⟨_, .indexAddr _ _ _, _, _, _, _⟩ _ _ _; first | refine A1 hG Y Y Y Y Y Y Y (by omega) ?_ | refine A0 hG Y Y Y Y Y Y Y (by omega) ?_ | refine Az hG Y Y Y Y Y Y Y (by omega) ?_ | refine A9 hG Y Y ?_)
      | refine A6 hG Y Y Y ?_
      | (show AOp _ _ ⟨_, .buildSlice _ _ _, _, _, _, _⟩ _ _ _; first | refine r_mk (sz := 1) hG Y Y Y Y Y Y Y ?_)
      | (show AOp _ _ ⟨_, .alloc _, _, _, _, _⟩ _ _ _; refine Ce hG Y Y (fun i => ?_))
      | (show AOp _ _ ⟨_, .store _ _ _, _, _, _, _⟩ _ _ _; first | refine Bc (α := Nat) 0 hG Y Y Y Ah Bb Y Y (by first | omega | (simp only [Array.size_setIfInBounds]; omega)) ?_ | refine Bc (α := Nat) 1 hG Y Y Y Ah Bb Y Y (by first | omega | (simp only [Array.size_setIfInBounds]; omega)) ?_ | refine Bv 0 hG Y Y Y Y Y Y Y ?_ | refine Bv 1 hG Y Y Y Y Y Y Y ?_)
      | (show AOp _ _ ⟨_, .call ⟨.builtin .append, _, _⟩, _, _, _, _⟩ _ _ _; first | refine Bo (sz := 1) (xs := []) hG Y Y Y Y Y Y Y ⟨_, Y⟩ Y Y Y Y Y Y Y (by first | omega | (simp; omega)) (fun k => ?_) | refine Bp 0 hG Y Y Y Y Y Y Y ⟨_, Y⟩ Y Y Y Y Y (by first | omega | (simp only [List.length_append, List.length_cons, List.length_nil]; omega)) (fun k => ?_) | fail)
      | (show AOp _ _ ⟨_, .call ⟨.value _, _, _⟩, _, _, _, _⟩ _ _ _; first | refine Bn Y Y Y Y Y (by first | (apply hM <;> (first | assumption | omega | exact A4 _ _ | exact Bd _ | exact A7 _ _ | exact Bi _ | rfl | (simp; omega))) | fail) ?_ | fail)
      | refine r_q hG Y Y Y ?_))
    | (show AL _ _ _ _ _ _ _ _; first | refine Bk Y Y Y ?_ | (refine Ar ?_; first | show AW _ _ _ _ _ _ | show ∃ x', _ < _ ∧ _)) | (show AW _ _ (.seq _ _) _ _ _; refine Ai ?_; intro Q1) | (show AW _ _ (.region _ _ false) _ _ _; refine Ad ?_; intro O1) | (show AW _ _ (.cond _ _ _) _ _ _; first | refine Ao Y ?_ | refine Ap Y ?_ | refine Ba Y (fun h => ?_) (fun h => ?_)) | (show AW _ _ (.skip) _ _ _; refine Aj ?_; first | show AW _ _ _ _ _ _ | show ∃ x', _ < _ ∧ _) | (show AW _ _ (.block _ _) _ _ _; refine Ae ?_; intro Q1) | (show AW _ _ (.exit _) _ _ _; refine Al ?_; first | show AW _ _ _ _ _ _ | show ∃ x', _ < _ ∧ _) | (show AW _ _ (.goto _) _ _ _; refine Ci ?_; try dsimp only [Ax, Aa, A2, Af]) | (show AW _ _ (.ret) _ _ _; refine Aw ?_; try dsimp only [Ax, Aa, A2, Af]) | fail)
          exact ⟨⟨q + 1, by omega⟩, by dsimp only; omega, (by repeat (first | exact .nil _ | refine .cons rfl ?_)), by
            dsimp only; rw [hks]
            exact keep_step (L' := [(mi, .map ((kset m (l.getD q default).id (l.getD q default).kind).map kvT))]) (R' := []) (List.sublist_cons_self _ _) (List.nil_sublist _)⟩
    · have hqe : l.take q = l := List.take_of_length_le (by omega)
      rw [hqe, hM]
      repeat' (first
    | ((show AL _ _ _ _ _ _ _ _; refine Ag Y ?_); (first
      | refine Aq hG Y Y ?_
      | refine A5 hG Y Y ?_
      | (show AOp _ _ ⟨_, .call ⟨.builtin .len, _, _⟩, _, _, _, _⟩ _ _ _; first | refine Bh hG Y Y Y Y ?_ | refine Bq hG Y Y Y Y Y ?_)
      | (show AOp _ _ ⟨_, .lookup _ _ _ _, _, _, _, _⟩ _ _ _; first | refine r_lookF hG Y Y Y Y Y Y Y Y Y ?_ | refine Cq hG Y Y Y Y Y Y Y Y Y ?_ | refine Bz (n := 0) hG Y Y Y Y Y Y Y Y Y Y ?_ | refine Bz (n := 1) hG Y Y Y Y Y Y Y Y Y Y ?_)
      | (show AOp _ _ ⟨_, .mapUpdate _ _ _ _, _, _, _, _⟩ _ _ _; first | refine B7 0 hG Y Y Y Y Y Y Y Y ?_ | refine B7 1 hG Y Y Y Y Y Y Y Y ?_)
      | (show AOp _ _ ⟨_, .binOp .add _ _ _ _, _, _, _, _⟩ _ _ _; first | refine Ac hG Y Y Y Y Y (by omega) ?_ | refine Ac (m := 1) hG Y Y Y Y Y (by omega) ?_ | refine Ab hG Y Y Y Y Y (by omega) ?_)
      | (show AOp _ _ ⟨_, .binOp _ _ _ _ _, _, _, _, _⟩ _ _ _; first | refine At hG Y Y Y Y Y (by omega) ?_ | refine Au hG Y Y Y Y Y (by omega) ?_ | (refine Am hG Y Y Y Y Y (fun h => ?_) (fun h => ?_)))
      | (show AOp _ _ ⟨_, .load _ _, _, _, _, _⟩ _ _ _; first | refine Ak (α := Nat) 0 hG Y Y Y Y (by omega) Y ?_ | refine Ak (α := Nat) 1 hG Y Y Y Y (by omega) Y ?_ | refine Ay hG Y Y Y ?_ | refine Bg 0 hG Y Y Y Y ?_ | refine Bg 1 hG Y Y Y Y ?_)
      | (show AOp _ _ ⟨_, .indexAddr _ _ _, _, _, _, _⟩ _ _ _; first | refine A1 hG Y Y Y Y Y Y Y (by omega) ?_ | refine A0 hG Y Y Y Y Y Y Y (by omega) ?_ | refine Az hG Y Y Y Y Y Y Y (by omega) ?_ | refine A9 hG Y Y ?_)
      | refine A6 hG Y Y Y ?_
      | (show AOp _ _ ⟨_, .buildSlice _ _ _, _, _, _, _⟩ _ _ _; first | refine r_mk (sz := 1) hG Y Y Y Y Y Y Y ?_)
      | (show AOp _ _ ⟨_, .alloc _, _, _, _, _⟩ _ _ _; refine Ce hG Y Y (fun i => ?_))
      | (show AOp _ _ ⟨_, .store _ _ _, _, _, _, _⟩ _ _ _; first | refine Bc (α := Nat) 0 hG Y Y Y Ah Bb Y Y (by first | omega | (simp only [Array.size_setIfInBounds]; omega)) ?_ | refine Bc (α := Nat) 1 hG Y Y Y Ah Bb Y Y (by first | omega | (simp only [Array.size_setIfInBounds]; omega)) ?_ | refine Bv 0 hG Y Y Y Y Y Y Y ?_ | refine Bv 1 hG Y Y Y Y Y Y Y ?_)
      | (show AOp _ _ ⟨_, .call ⟨.builtin .append, _, _⟩, _, _, _, _⟩ _ _ _; first | refine Bo (sz := 1) (xs := []) hG Y Y Y Y Y Y Y ⟨_, Y⟩ Y Y Y Y Y Y Y (by first | omega | (simp; omega)) (fun k => ?_) | refine Bp 0 hG Y Y Y Y Y Y Y ⟨_, Y⟩ Y Y Y Y Y (by first | omega | (simp only [List.length_append, List.length_cons, List.length_nil]; omega)) (fun k => ?_) | fail)
      | refine r_q hG Y Y Y ?_))
    | (show AL _ _ _ _ _ _ _ _; first | refine Bk Y Y Y ?_ | (refine Ar ?_; first | show AW _ _ _ _ _ _ | show ∃ x', _ < _ ∧ _)) | (show AW _ _ (.seq _ _) _ _ _; refine Ai ?_; intro Q1) | (show AW _ _ (.region _ _ false) _ _ _; (fail_if_success show AW _ _ (.region 8 _ _) _ _ _); refine Ad ?_; intro O1) | (show AW _ _ (.cond _ _ _) _ _ _; first | refine Ao Y ?_ | refine Ap Y ?_ | refine Ba Y (fun h => ?_) (fun h => ?_)) | (show AW _ _ (.skip) _ _ _; refine Aj ?_; first | show AW _ _ _ _ _ _ | show ∃ x', _ < _ ∧ _) | (show AW _ _ (.block _ _) _ _ _; refine Ae ?_; intro Q1) | (show AW _ _ (.exit _) _ _ _; refine Al ?_; first | show AW _ _ _ _ _ _ | show ∃ x', _ < _ ∧ _) | (show AW _ _ (.goto _) _ _ _; refine Ci ?_; try dsimp only [Ax, Aa, A2, Af]) | (show AW _ _ (.ret) _ _ _; refine Aw ?_; try dsimp only [Ax, Aa, A2, Af]) | fail)
      refine aw_freezeM 0 3 rfl rfl ?_
      repeat' (first
    | ((show AL _ _ _ _ _ _ _ _; refine Ag Y ?_); (first
      | refine Aq hG Y Y ?_
      | refine A5 hG Y Y ?_
      | (show AOp _ _ ⟨_, .call ⟨.builtin .len, _, _⟩, _, _, _, _⟩ _ _ _; first | refine Bh hG Y Y Y Y ?_ | refine Bq hG Y Y Y Y Y ?_)
      | (show AOp _ _ ⟨_, .lookup _ _ _ _, _, _, _, _⟩ _ _ _; first | refine r_lookF hG Y Y Y Y Y Y Y Y Y ?_ | refine Cq hG Y Y Y Y Y Y Y Y Y ?_ | refine Bz (n := 0) hG Y Y Y Y Y Y Y Y Y Y ?_ | refine Bz (n := 1) hG Y Y Y Y Y Y Y Y Y Y ?_)
      | (show AOp _ _ ⟨_, .mapUpdate _ _ _ _, _, _, _, _⟩ _ _ _; first | refine B7 0 hG Y Y Y Y Y Y Y Y ?_ | refine B7 1 hG Y Y Y Y Y Y Y Y ?_)
      | (show AOp _ _ ⟨_, .binOp .add _ _ _ _, _, _, _, _⟩ _ _ _; first | refine Ac hG Y Y Y Y Y (by omega) ?_ | refine Ac (m := 1) hG Y Y Y Y Y (by omega) ?_ | refine Ab hG Y Y Y Y Y (by omega) ?_)
      | (show AOp _ _ ⟨_, .binOp _ _ _ _ _, _, _, _, _⟩ _ _ _; first | refine At hG Y Y Y Y Y (by omega) ?_ | refine Au hG Y Y Y Y Y (by omega) ?_ | (refine Am hG Y Y Y Y Y (fun h => ?_) (fun h => ?_)))
      | (show AOp _ _ ⟨_, .load _ _, _, _, _, _⟩ _ _ _; first | refine Ak (α := Nat) 0 hG Y Y Y Y (by omega) Y ?_ | refine Ak (α := Nat) 1 hG Y Y Y Y (by omega) Y ?_ | refine Ay hG Y Y Y ?_ | refine Bg 0 hG Y Y Y Y ?_ | refine Bg 1 hG Y Y Y Y ?_)
      | (show AOp _ _ ⟨_, .indexAddr _ _ _, _, _, _, _⟩ _ _ _; first | refine A1 hG Y Y Y Y Y Y Y (by omega) ?_ | refine A0 hG Y Y Y Y Y Y Y (by omega) ?_ | refine Az hG Y Y Y Y Y Y Y (by omega) ?_ | refine A9 hG Y Y ?_)
      | refine A6 hG Y Y Y ?_
      | (show AOp _ _ ⟨_, .buildSlice _ _ _, _, _, _, _⟩ _ _ _; first | refine r_mk (sz := 1) hG Y Y Y Y Y Y Y ?_)
      | (show AOp _ _ ⟨_, .alloc _, _, _, _, _⟩ _ _ _; refine Ce hG Y Y (fun i => ?_))
      | (show AOp _ _ ⟨_, .store _ _ _, _, _, _, _⟩ _ _ _; first | refine Bc (α := Nat) 0 hG Y Y Y Ah Bb Y Y (by first | omega | (simp only [Array.size_setIfInBounds]; omega)) ?_ | refine Bc (α := Nat) 1 hG Y Y Y Ah Bb Y Y (by first | omega | (simp only [Array.size_setIfInBounds]; omega)) ?_ | refine Bv 0 hG Y Y Y Y Y Y Y ?_ | refine Bv 1 hG Y Y Y Y Y Y Y ?_)
      | (show AOp _ _ ⟨_, .call ⟨.builtin .append, _, _⟩, _, _, _, _⟩ _ _ _; first | refine Bo (sz := 1) (xs := []) hG Y Y Y Y Y Y Y ⟨_, Y⟩ Y Y Y Y Y Y Y (by first | omega | (simp; omega)) (fun k => ?_) | refine Bp 0 hG Y Y Y Y Y Y Y ⟨_, Y⟩ Y Y Y Y Y (by first | omega | (simp only [List.length_append, List.length_cons, List.length_nil]; omega)) (fun k => ?_) | fail)
      | refine r_q hG Y Y Y ?_))
    | (show AL _ _ _ _ _ _ _ _; first | refine Bk Y Y Y ?_ | (refine Ar ?_; first | show AW _ _ _ _ _ _ | show ∃ x', _ < _ ∧ _)) | (show AW _ _ (.seq _ _) _ _ _; refine Ai ?_; intro Q1) | (show AW _ _ (.region _ _ false) _ _ _; refine Ad ?_; intro O1) | (show AW _ _ (.cond _ _ _) _ _ _; first | refine Ao Y ?_ | refine Ap Y ?_ | refine Ba Y (fun h => ?_) (fun h => ?_)) | (show AW _ _ (.skip) _ _ _; refine Aj ?_; first | show AW _ _ _ _ _ _ | show ∃ x', _ < _ ∧ _) | (show AW _ _ (.block _ _) _ _ _; refine Ae ?_; intro Q1) | (show AW _ _ (.exit _) _ _ _; refine Al ?_; first | show AW _ _ _ _ _ _ | show ∃ x', _ < _ ∧ _) | (show AW _ _ (.goto _) _ _ _; refine Ci ?_; try dsimp only [Ax, Aa, A2, Af]) | (show AW _ _ (.ret) _ _ _; refine Aw ?_; try dsimp only [Ax, Aa, A2, Af]) | fail)
      · rw [if_pos h] at hR
        refine aw_label ?_
        show AW _ _ _ _ _ _
        refine aw_tok0 6 1 rfl rfl rfl rfl (fun k => ?_)
        refine aw_forget ?_ (key ⟨8, [1], [], k, by omega, fun id hid => ?_, by simp, by simp, hR⟩)
        · exact .cons rfl (.cons rfl (.consW rfl (.own _ _ _) (.nil _)))
        · obtain rfl : id = 1 := by simpa using hid
          exact ⟨[], nm_one 6, rfl⟩
      · rw [if_neg (by rw [h]; exact Bool.false_ne_true)] at hR
        refine aw_label ?_
        show AW _ _ _ _ _ _
        refine aw_tok0 6 1 rfl rfl rfl rfl (fun k => ?_)
        refine aw_forget ?_ (key ⟨8, [], [], k, by omega, fun id hid => (by cases hid), by simp, by simp, hR⟩)
        exact .cons rfl (.cons rfl (.consW rfl (.nil 1) (.nil _)))
end Go.Proofs.Ytmckbfdklcmogaa
namespace Go.Proofs.Ytmckbfdklcmogaa
open Go.Ts
set_option linter.unusedSimpArgs false
set_option linter.unusedVariables false
set_option linter.unnecessarySimpa false
attribute [local irreducible] Go.Ts.AW Go.Ts.AOps Go.Ts.AL Go.Ts.AOp Go.Ts.ACalls Go.Ts.DL Go.Ts.DQ0 Go.Ts.EL
theorem nextL_len (m : List (Nat × Int)) (lv : List Nat) : (nextL m lv).length ≤ m.length := by
  unfold nextL
  rw [srtL_len]
  refine Nat.le_trans (List.length_filter_le _ _) ?_
  simp
theorem reachGo_len (m : List (Nat × Int)) : ∀ (f : Nat) (lv out : List Nat), (reachGo m f lv out).length ≤ out.length + lv.length + f * m.length
  | 0, lv, out => by simp [reachGo]
  | f + 1, lv, out => by
    rw [reachGo]; split
    · omega
    · have h1 := reachGo_len m f (nextL m lv) (out ++ lv)
      have h2 := nextL_len m lv
      rw [Nat.add_mul]
      simp only [List.length_append] at h1
      omega
theorem reachGo_mem (m : List (Nat × Int)) (id : Nat) : ∀ (f : Nat) (lv out : List Nat), id ∈ reachGo m f lv out → id ∈ out ∨ id ∈ lv ∨ id ∈ m.map (·.1)
  | 0, lv, out, h => .inl h
  | f + 1, lv, out, h => by
    rw [reachGo] at h; split at h
    · exact .inl h
    · rcases reachGo_mem m id f _ _ h with h1 | h1 | h1
      · rcases List.mem_append.1 h1 with h2 | h2
        · exact .inl h2
        · exact .inr (.inl h2)
      · unfold nextL at h1
        exact .inr (.inr (List.mem_filter.1 ((srtL_spec _).1.mem_iff.1 h1)).1)
      · exact .inr (.inr h1)
theorem reachL_len {l : List OB} (h : l.length ≤ 31) : (reachL l).length ≤ 255 := by
  have h1 := reachGo_len (kinds l) 8 (if khas (kinds l) 1 = true then [1] else []) []
  have h2 := kinds_len l
  have h3 : (if khas (kinds l) 1 = true then [1] else []).length ≤ 1 := by split <;> simp
  unfold reachL
  simp only [List.length_nil] at h1
  omega
theorem reachL_lt (l : List OB) : ∀ id ∈ reachL l, id < 18446744073709551616 := by
  intro id hid
  rcases reachGo_mem _ id _ _ _ hid with h | h | h
  · cases h
  · split at h
    · simp at h; omega
    · cases h
  · obtain ⟨p, hp, rfl⟩ := List.mem_map.1 h
    exact kinds_lt l p hp
def withinL (l : List OB) (v : Nat) : List Nat := srtL ((reachL l).filter fun id => decide (v ∈ B8 id))
def bS0 (off : Nat → Nat → Prop) : List Nat → Nat → St
  | [], _ => ⟨[], [], off, none⟩
  | x :: l, i => ⟨[(i, .cells (rowT mT (x :: l).toArray))], [], off, none⟩
structure WiX (r : List Nat) where
  i : Nat
  y : Nat
  hi : i ≤ r.length
theorem filter_take {r : List Nat} {q : Nat} {p : Nat → Bool} (h : q < r.length) : (r.take (q + 1)).filter p = (r.take q).filter p ++ (if p (r.getD q default) = true then [r.getD q default] else []) := by
  rw [List.take_add_one, List.filter_append]
  congr 1
  simp only [List.getElem?_eq_getElem h, Option.toList_some, List.getD, Option.getD_some]
  by_cases hb : p r[q] = true <;> simp [hb]
set_option maxHeartbeats 1000000 in
theorem walk_Within {l : List OB} {v : Nat} (hl : l.length ≤ 31) : Ts.Pure Try.prog 12 [.sl 13 .no (l.map oT), mT v] (.sl 1 .no ((withinL l v).map mT)) := by
  have h1 := walk_Reach (l := l) (by omega)
  have hrl := reachL_len hl
  have hrt := reachL_lt l
  have hR : withinL l v = srtL ((reachL l).filter fun id => decide (v ∈ B8 id)) := rfl
  rw [hR]
  clear hR
  generalize reachL l = r at *
  intro off
  refine Br (N := 26) (rs := [.tmp 4]) hG Try.func12 rfl rfl rfl rfl rfl ?_
  repeat' (first
    | ((show AL _ _ _ _ _ _ _ _; refine Ag Y ?_); (first
      | refine Aq hG Y Y ?_
      | refine A5 hG Y Y ?_
      | (show AOp _ _ ⟨_, .call ⟨.builtin .len, _, _⟩, _, _, _, _⟩ _ _ _; first | refine Bh hG Y Y Y Y ?_ | refine Bq hG Y Y Y Y Y ?_)
      | (show AOp _ _ ⟨_, .binOp .add _ _ _ _, _, _, _, _⟩ _ _ _; first | refine Ac hG Y Y Y Y Y (by omega) ?_ | refine Ac (m := 1) hG Y Y Y Y Y (by omega) ?_ | refine Ab hG Y Y Y Y Y (by omega) ?_)
      | (show AOp _ _ ⟨_, .binOp _ _ _ _ _, _, _, _, _⟩ _ _ _; first | refine At hG Y Y Y Y Y (by omega) ?_ | refine Au hG Y Y Y Y Y (by omega) ?_ | (refine Am hG Y Y Y Y Y (fun h => ?_) (fun h => ?_)))
      | (show AOp _ _ ⟨_, .load _ _, _, _, _, _⟩ _ _ _; first | refine Ak (α := UInt16) 0 hG Y Y Y Y (by omega) Y ?_ | refine Ak (α := UInt16) 1 hG Y Y Y Y (by omega) Y ?_ | refine Ay hG Y Y Y ?_ | refine Bg 0 hG Y Y Y Y ?_)
      | (show AOp _ _ ⟨_, .indexAddr _ _ _, _, _, _, _⟩ _ _ _; first | refine A1 hG Y Y Y Y Y Y Y (by omega) ?_ | refine A0 hG Y Y Y Y Y Y Y (by omega) ?_ | refine Az hG Y Y Y Y Y Y Y (by omega) ?_ | refine A9 hG Y Y ?_)
      | (show AOp _ _ ⟨_, .buildSlice _ _ _, _, _, _, _⟩ _ _ _; first | refine r_mk (sz := 1) hG Y Y Y Y Y Y Y ?_)
      | (show AOp _ _ ⟨_, .call ⟨.builtin .append, _, _⟩, _, _, _, _⟩ _ _ _; first | refine Bo (sz := 1) (xs := []) hG Y Y Y Y Y Y Y ⟨_, Y⟩ Y Y Y Y Y Y Y (by first | omega | (simp; omega)) (fun k => ?_) | refine Bp 0 hG Y Y Y Y Y Y Y ⟨_, Y⟩ Y Y Y Y Y (by first | omega | (simp only [List.length_append, List.length_cons, List.length_nil]; omega)) (fun k => ?_) | fail)
      | (show AOp _ _ ⟨_, .call ⟨.value _, _, _⟩, _, _, _, _⟩ _ _ _; first | refine Bn Y Y Y Y Y (by first | (apply h1 <;> (first | assumption | omega | exact A4 _ _ | exact Bd _ | exact A7 _ _ | exact Bi _ | rfl | (simp; omega))) | fail) ?_ | fail)
      | refine r_q hG Y Y Y ?_))
    | (show AL _ _ _ _ _ _ _ _; first | refine Bk Y Y Y ?_ | (refine Ar ?_; first | show AW _ _ _ _ _ _ | show ∃ x', _ < _ ∧ _)) | (show AW _ _ (.seq _ _) _ _ _; refine Ai ?_; intro Q1) | (show AW _ _ (.region _ _ false) _ _ _; refine Ad ?_; intro O1) | (show AW _ _ (.cond _ _ _) _ _ _; first | refine Ao Y ?_ | refine Ap Y ?_ | refine Ba Y (fun h => ?_) (fun h => ?_)) | (show AW _ _ (.skip) _ _ _; refine Aj ?_; first | show AW _ _ _ _ _ _ | show ∃ x', _ < _ ∧ _) | (show AW _ _ (.block _ _) _ _ _; refine Ae ?_; intro Q1) | (show AW _ _ (.exit _) _ _ _; refine Al ?_; first | show AW _ _ _ _ _ _ | show ∃ x', _ < _ ∧ _) | (show AW _ _ (.ret) _ _ _; refine Aw ?_; try dsimp only [Ax, Aa, A2, Af]) | fail)
  refine Ch (X := WiX r) (fun x => [(1, mT v), (5, bE ((r.take x.i).filter fun id => decide (v ∈ B8 id)) x.y), (9, .sl 1 .no (r.map mT)), (10, .int .i64 (r.length : Int)), (11, .int .i64 (x.i : Int))]) (fun x => bS0 off ((r.take x.i).filter fun id => decide (v ∈ B8 id)) x.y) (fun x => r.length - x.i) ⟨0, 0, Nat.zero_le _⟩ (by repeat (first | exact .nil _ | refine .cons rfl ?_)) (.refl _) ?_
  rintro ⟨q, y, hi⟩
  dsimp only
  by_cases hil : q < r.length
  · have hks := filter_take (p := fun id => decide (v ∈ B8 id)) hil
    have hgl : ((r.take q).filter fun id => decide (v ∈ B8 id)).length ≤ 255 := Nat.le_trans (List.length_filter_le _ _) (by rw [List.length_take]; omega)
    have hkk : r.getD q default < 18446744073709551616 := hrt _ (by simp [List.getD, hil])
    have hN := name_Within (v := v) hkk
    generalize ((r.take q).filter fun id => decide (v ∈ B8 id)) = g at *
    by_cases hb : v ∈ B8 (r.getD q default)
    · rw [decide_eq_true hb, if_pos rfl] at hks
      rw [decide_eq_true hb] at hN
      cases g with
      | nil =>
        repeat' (first
    | ((show AL _ _ _ _ _ _ _ _; refine Ag Y ?_); (first
      | refine Aq hG Y Y ?_
      | refine A5 hG Y Y ?_
      | (show AOp _ _ ⟨_, .call ⟨.builtin .len, _, _⟩, _, _, _, _⟩ _ _ _; first | refine Bh hG Y Y Y Y ?_ | refine Bq hG Y Y Y Y Y ?_)
      | (show AOp _ _ ⟨_, .binOp .add _ _ _ _, _, _, _, _⟩ _ _ _; first | refine Ac hG Y Y Y Y Y (by omega) ?_ | refine Ac (m := 1) hG Y Y Y Y Y (by omega) ?_ | refine Ab hG Y Y Y Y Y (by omega) ?_)
      | (show AOp _ _ ⟨_, .binOp _ _ _ _ _, _, _, _, _⟩ _ _ _; first | refine At hG Y Y Y Y Y (by omega) ?_ | refine Au hG Y Y Y Y Y (by omega) ?_ | (refine Am hG Y Y Y Y Y (fun h => ?_) (fun h => ?_)))
      | (show AOp _ _ ⟨_, .load _ _, _, _, _, _⟩ _ _ _; first | refine Ak (α := UInt16) 0 hG Y Y Y Y (by omega) Y ?_ | refine Ak (α := UInt16) 1 hG Y Y Y Y (by omega) Y ?_ | refine Ay hG Y Y Y ?_ | refine Bg 0 hG Y Y Y Y ?_)
      | (show AOp _ _ ⟨_, .indexAddr _ _ _, _, _, _, _⟩ _ _ _; first | refine A1 hG Y Y Y Y Y Y Y (by omega) ?_ | refine A0 hG Y Y Y Y Y Y Y (by omega) ?_ | refine Az hG Y Y Y Y Y Y Y (by omega) ?_ | refine A9 hG Y Y ?_)
      | (show AOp _ _ ⟨_, .buildSlice _ _ _, _, _, _, _⟩ _ _ _; first | refine r_mk (sz := 1) hG Y Y Y Y Y Y Y ?_)
      | (show AOp _ _ ⟨_, .call ⟨.builtin .append, _, _⟩, _, _, _, _⟩ _ _ _; fail)
      | (show AOp _ _ ⟨_, .call ⟨.value _, _, _⟩, _, _, _, _⟩ _ _ _; first | refine Bn Y Y Y Y Y (by first | (apply hN <;> (first | assumption | omega | exact A4 _ _ | exact Bd _ | exact A7 _ _ | exact Bi _ | rfl | (simp; omega))) | fail) ?_ | fail)
      | refine r_q hG Y Y Y ?_))
    | (show AL _ _ _ _ _ _ _ _; first | refine Bk Y Y Y ?_ | (refine Ar ?_; first | show AW _ _ _ _ _ _ | show ∃ x', _ < _ ∧ _)) | (show AW _ _ (.seq _ _) _ _ _; refine Ai ?_; intro Q1) | (show AW _ _ (.region _ _ false) _ _ _; refine Ad ?_; intro O1) | (show AW _ _ (.cond _ _ _) _ _ _; first | refine Ao Y ?_ | refine Ap Y ?_ | refine Ba Y (fun h => ?_) (fun h => ?_)) | (show AW _ _ (.skip) _ _ _; refine Aj ?_; first | show AW _ _ _ _ _ _ | show ∃ x', _ < _ ∧ _) | (show AW _ _ (.block _ _) _ _ _; refine Ae ?_; intro Q1) | (show AW _ _ (.exit _) _ _ _; refine Al ?_; first | show AW _ _ _ _ _ _ | show ∃ x', _ < _ ∧ _) | (show AW _ _ (.ret) _ _ _; refine Aw ?_; try dsimp only [Ax, Aa, A2, Af]) | fail)
        refine Ag rfl (aop_app0L (objs := fun _ => none) hG rfl rfl rfl rfl rfl ⟨_, rfl⟩ rfl rfl (fun i o h => by cases h) rfl rfl (by simp) (by simp) rfl (fun i' hi' => ?_))
        repeat' (first
    | ((show AL _ _ _ _ _ _ _ _; refine Ag Y ?_); (first
      | refine Aq hG Y Y ?_
      | refine A5 hG Y Y ?_
      | (show AOp _ _ ⟨_, .call ⟨.builtin .len, _, _⟩, _, _, _, _⟩ _ _ _; first | refine Bh hG Y Y Y Y ?_ | refine Bq hG Y Y Y Y Y ?_)
      | (show AOp _ _ ⟨_, .binOp .add _ _ _ _, _, _, _, _⟩ _ _ _; first | refine Ac hG Y Y Y Y Y (by omega) ?_ | refine Ac (m := 1) hG Y Y Y Y Y (by omega) ?_ | refine Ab hG Y Y Y Y Y (by omega) ?_)
      | (show AOp _ _ ⟨_, .binOp _ _ _ _ _, _, _, _, _⟩ _ _ _; first | refine At hG Y Y Y Y Y (by omega) ?_ | refine Au hG Y Y Y Y Y (by omega) ?_ | (refine Am hG Y Y Y Y Y (fun h => ?_) (fun h => ?_)))
      | (show AOp _ _ ⟨_, .load _ _, _, _, _, _⟩ _ _ _; first | refine Ak (α := UInt16) 0 hG Y Y Y Y (by omega) Y ?_ | refine Ak (α := UInt16) 1 hG Y Y Y Y (by omega) Y ?_ | refine Ay hG Y Y Y ?_ | refine Bg 0 hG Y Y Y Y ?_)
      | (show AOp _ _ ⟨_, .indexAddr _ _ _, _, _, _, _⟩ _ _ _; first | refine A1 hG Y Y Y Y Y Y Y (by omega) ?_ | refine A0 hG Y Y Y Y Y Y Y (by omega) ?_ | refine Az hG Y Y Y Y Y Y Y (by omega) ?_ | refine A9 hG Y Y ?_)
      | (show AOp _ _ ⟨_, .buildSlice _ _ _, _, _, _, _⟩ _ _ _; first | refine r_mk (sz := 1) hG Y Y Y Y Y Y Y ?_)
      | (show AOp _ _ ⟨_, .call ⟨.builtin .append, _, _⟩, _, _, _, _⟩ _ _ _; first | refine Bo (sz := 1) (xs := []) hG Y Y Y Y Y Y Y ⟨_, Y⟩ Y Y Y Y Y Y Y (by first | omega | (simp; omega)) (fun k => ?_) | refine Bp 0 hG Y Y Y Y Y Y Y ⟨_, Y⟩ Y Y Y Y Y (by first | omega | (simp only [List.length_append, List.length_cons, List.length_nil]; omega)) (fun k => ?_) | fail)
      | refine r_q hG Y Y Y ?_))
    | (show AL _ _ _ _ _ _ _ _; first | refine Bk Y Y Y ?_ | (refine Ar ?_; first | show AW _ _ _ _ _ _ | show ∃ x', _ < _ ∧ _)) | (show AW _ _ (.seq _ _) _ _ _; refine Ai ?_; intro Q1) | (show AW _ _ (.region _ _ false) _ _ _; refine Ad ?_; intro O1) | (show AW _ _ (.cond _ _ _) _ _ _; first | refine Ao Y ?_ | refine Ap Y ?_ | refine Ba Y (fun h => ?_) (fun h => ?_)) | (show AW _ _ (.skip) _ _ _; refine Aj ?_; first | show AW _ _ _ _ _ _ | show ∃ x', _ < _ ∧ _) | (show AW _ _ (.block _ _) _ _ _; refine Ae ?_; intro Q1) | (show AW _ _ (.exit _) _ _ _; refine Al ?_; first | show AW _ _ _ _ _ _ | show ∃ x', _ < _ ∧ _) | (show AW _ _ (.ret) _ _ _; refine Aw ?_; try dsimp only [Ax, Aa, A2, Af]) | fail)
        exact ⟨⟨q + 1, i', by omega⟩, by dsimp only; omega, (.cons rfl (.consW rfl (.eq (by dsimp only; rw [hks]; rfl)) (.cons rfl (.cons rfl (.cons rfl (.nil _)))))), by dsimp only; rw [hks]; exact .refl _⟩
      | cons z g =>
        repeat' (first
    | ((show AL _ _ _ _ _ _ _ _; refine Ag Y ?_); (first
      | refine Aq hG Y Y ?_
      | refine A5 hG Y Y ?_
      | (show AOp _ _ ⟨_, .call ⟨.builtin .len, _, _⟩, _, _, _, _⟩ _ _ _; first | refine Bh hG Y Y Y Y ?_ | refine Bq hG Y Y Y Y Y ?_)
      | (show AOp _ _ ⟨_, .binOp .add _ _ _ _, _, _, _, _⟩ _ _ _; first | refine Ac hG Y Y Y Y Y (by omega) ?_ | refine Ac (m := 1) hG Y Y Y Y Y (by omega) ?_ | refine Ab hG Y Y Y Y Y (by omega) ?_)
      | (show AOp _ _ ⟨_, .binOp _ _ _ _ _, _, _, _, _⟩ _ _ _; first | refine At hG Y Y Y Y Y (by omega) ?_ | refine Au hG Y Y Y Y Y (by omega) ?_ | (refine Am hG Y Y Y Y Y (fun h => ?_) (fun h => ?_)))
      | (show AOp _ _ ⟨_, .load _ _, _, _, _, _⟩ _ _ _; first | refine Ak (α := UInt16) 0 hG Y Y Y Y (by omega) Y ?_ | refine Ak (α := UInt16) 1 hG Y Y Y Y (by omega) Y ?_ | refine Ay hG Y Y Y ?_ | refine Bg 0 hG Y Y Y Y ?_)
      | (show AOp _ _ ⟨_, .indexAddr _ _ _, _, _, _, _⟩ _ _ _; first | refine A1 hG Y Y Y Y Y Y Y (by omega) ?_ | refine A0 hG Y Y Y Y Y Y Y (by omega) ?_ | refine Az hG Y Y Y Y Y Y Y (by omega) ?_ | refine A9 hG Y Y ?_)
      | (show AOp _ _ ⟨_, .buildSlice _ _ _, _, _, _, _⟩ _ _ _; first | refine r_mk (sz := 1) hG Y Y Y Y Y Y Y ?_)
      | (show AOp _ _ ⟨_, .call ⟨.builtin .append, _, _⟩, _, _, _, _⟩ _ _ _; fail)
      | (show AOp _ _ ⟨_, .call ⟨.value _, _, _⟩, _, _, _, _⟩ _ _ _; first | refine Bn Y Y Y Y Y (by first | (apply hN <;> (first | assumption | omega | exact A4 _ _ | exact Bd _ | exact A7 _ _ | exact Bi _ | rfl | (simp; omega))) | fail) ?_ | fail)
      | refine r_q hG Y Y Y ?_))
    | (show AL _ _ _ _ _ _ _ _; first | refine Bk Y Y Y ?_ | (refine Ar ?_; first | show AW _ _ _ _ _ _ | show ∃ x', _ < _ ∧ _)) | (show AW _ _ (.seq _ _) _ _ _; refine Ai ?_; intro Q1) | (show AW _ _ (.region _ _ false) _ _ _; refine Ad ?_; intro O1) | (show AW _ _ (.cond _ _ _) _ _ _; first | refine Ao Y ?_ | refine Ap Y ?_ | refine Ba Y (fun h => ?_) (fun h => ?_)) | (show AW _ _ (.skip) _ _ _; refine Aj ?_; first | show AW _ _ _ _ _ _ | show ∃ x', _ < _ ∧ _) | (show AW _ _ (.block _ _) _ _ _; refine Ae ?_; intro Q1) | (show AW _ _ (.exit _) _ _ _; refine Al ?_; first | show AW _ _ _ _ _ _ | show ∃ x', _ < _ ∧ _) | (show AW _ _ (.ret) _ _ _; refine Aw ?_; try dsimp only [Ax, Aa, A2, Af]) | fail)
        refine Ag rfl (aop_appL (n := 0) (objs := fun _ => none) hG rfl rfl rfl rfl rfl ⟨_, rfl⟩ rfl rfl ?_ rfl (fun i o h => by cases h) rfl rfl ?_ ?_ rfl (fun i' hi' => ?_))
        · simp [rowT_length]
        · intro q' hq; simp [flat, T.cells, mT] at hq; subst hq; rfl
        · simp only [List.length_cons, List.length_nil] at *; omega
        repeat' (first
    | ((show AL _ _ _ _ _ _ _ _; refine Ag Y ?_); (first
      | refine Aq hG Y Y ?_
      | refine A5 hG Y Y ?_
      | (show AOp _ _ ⟨_, .call ⟨.builtin .len, _, _⟩, _, _, _, _⟩ _ _ _; first | refine Bh hG Y Y Y Y ?_ | refine Bq hG Y Y Y Y Y ?_)
      | (show AOp _ _ ⟨_, .binOp .add _ _ _ _, _, _, _, _⟩ _ _ _; first | refine Ac hG Y Y Y Y Y (by omega) ?_ | refine Ac (m := 1) hG Y Y Y Y Y (by omega) ?_ | refine Ab hG Y Y Y Y Y (by omega) ?_)
      | (show AOp _ _ ⟨_, .binOp _ _ _ _ _, _, _, _, _⟩ _ _ _; first | refine At hG Y Y Y Y Y (by omega) ?_ | refine Au hG Y Y Y Y Y (by omega) ?_ | (refine Am hG Y Y Y Y Y (fun h => ?_) (fun h => ?_)))
      | (show AOp _ _ ⟨_, .load _ _, _, _, _, _⟩ _ _ _; first | refine Ak (α := UInt16) 0 hG Y Y Y Y (by omega) Y ?_ | refine Ak (α := UInt16) 1 hG Y Y Y Y (by omega) Y ?_ | refine Ay hG Y Y Y ?_ | refine Bg 0 hG Y Y Y Y ?_)
      | (show AOp _ _ ⟨_, .indexAddr _ _ _, _, _, _, _⟩ _ _ _; first | refine A1 hG Y Y Y Y Y Y Y (by omega) ?_ | refine A0 hG Y Y Y Y Y Y Y (by omega) ?_ | refine Az hG Y Y Y Y Y Y Y (by omega) ?_ | refine A9 hG Y Y ?_)
      | (show AOp _ _ ⟨_, .buildSlice _ _ _, _, _, _, _⟩ _ _ _; first | refine r_mk (sz := 1) hG Y Y Y Y Y Y Y ?_)
      | (show AOp _ _ ⟨_, .call ⟨.builtin .append, _, _⟩, _, _, _, _⟩ _ _ _; first | refine Bo (sz := 1) (xs := []) hG Y Y Y Y Y Y Y ⟨_, Y⟩ Y Y Y Y Y Y Y (by first | omega | (simp; omega)) (fun k => ?_) | refine Bp 0 hG Y Y Y Y Y Y Y ⟨_, Y⟩ Y Y Y Y Y (by first | omega | (simp only [List.length_append, List.length_cons, List.length_nil]; omega)) (fun k => ?_) | fail)
      | refine r_q hG Y Y Y ?_))
    | (show AL _ _ _ _ _ _ _ _; first | refine Bk Y Y Y ?_ | (refine Ar ?_; first | show AW _ _ _ _ _ _ | show ∃ x', _ < _ ∧ _)) | (show AW _ _ (.seq _ _) _ _ _; refine Ai ?_; intro Q1) | (show AW _ _ (.region _ _ false) _ _ _; refine Ad ?_; intro O1) | (show AW _ _ (.cond _ _ _) _ _ _; first | refine Ao Y ?_ | refine Ap Y ?_ | refine Ba Y (fun h => ?_) (fun h => ?_)) | (show AW _ _ (.skip) _ _ _; refine Aj ?_; first | show AW _ _ _ _ _ _ | show ∃ x', _ < _ ∧ _) | (show AW _ _ (.block _ _) _ _ _; refine Ae ?_; intro Q1) | (show AW _ _ (.exit _) _ _ _; refine Al ?_; first | show AW _ _ _ _ _ _ | show ∃ x', _ < _ ∧ _) | (show AW _ _ (.ret) _ _ _; refine Aw ?_; try dsimp only [Ax, Aa, A2, Af]) | fail)
        exact ⟨⟨q + 1, i', by omega⟩, by dsimp only; omega, (.cons rfl (.consW rfl (.eq (by dsimp only; rw [hks]; simp [bE])) (.cons rfl (.cons rfl (.cons rfl (.nil _)))))), by
          dsimp only; rw [hks]
          show Go.Ts.GStep ⟨[(i', .cells ((rowT mT (z :: g).toArray).drop 0 ++ flat [mT (r.getD q default)]))], [], off, none⟩ _
          rw [rowN_snoc]; exact .refl _⟩
    · rw [decide_eq_false hb, if_neg (by simp), List.append_nil] at hks
      rw [decide_eq_false hb] at hN
      cases g with
      | nil =>
        repeat' (first
    | ((show AL _ _ _ _ _ _ _ _; refine Ag Y ?_); (first
      | refine Aq hG Y Y ?_
      | refine A5 hG Y Y ?_
      | (show AOp _ _ ⟨_, .call ⟨.builtin .len, _, _⟩, _, _, _, _⟩ _ _ _; first | refine Bh hG Y Y Y Y ?_ | refine Bq hG Y Y Y Y Y ?_)
      | (show AOp _ _ ⟨_, .binOp .add _ _ _ _, _, _, _, _⟩ _ _ _; first | refine Ac hG Y Y Y Y Y (by omega) ?_ | refine Ac (m := 1) hG Y Y Y Y Y (by omega) ?_ | refine Ab hG Y Y Y Y Y (by omega) ?_)
      | (show AOp _ _ ⟨_, .binOp _ _ _ _ _, _, _, _, _⟩ _ _ _; first | refine At hG Y Y Y Y Y (by omega) ?_ | refine Au hG Y Y Y Y Y (by omega) ?_ | (refine Am hG Y Y Y Y Y (fun h => ?_) (fun h => ?_)))
      | (show AOp _ _ ⟨_, .load _ _, _, _, _, _⟩ _ _ _; first | refine Ak (α := UInt16) 0 hG Y Y Y Y (by omega) Y ?_ | refine Ak (α := UInt16) 1 hG Y Y Y Y (by omega) Y ?_ | refine Ay hG Y Y Y ?_ | refine Bg 0 hG Y Y Y Y ?_)
      | (show AOp _ _ ⟨_, .indexAddr _ _ _, _, _, _, _⟩ _ _ _; first | refine A1 hG Y Y Y Y Y Y Y (by omega) ?_ | refine A0 hG Y Y Y Y Y Y Y (by omega) ?_ | refine Az hG Y Y Y Y Y Y Y (by omega) ?_ | refine A9 hG Y Y ?_)
      | (show AOp _ _ ⟨_, .buildSlice _ _ _, _, _, _, _⟩ _ _ _; first | refine r_mk (sz := 1) hG Y Y Y Y Y Y Y ?_)
      | (show AOp _ _ ⟨_, .call ⟨.builtin .append, _, _⟩, _, _, _, _⟩ _ _ _; first | refine Bo (sz := 1) (xs := []) hG Y Y Y Y Y Y Y ⟨_, Y⟩ Y Y Y Y Y Y Y (by first | omega | (simp; omega)) (fun k => ?_) | refine Bp 0 hG Y Y Y Y Y Y Y ⟨_, Y⟩ Y Y Y Y Y (by first | omega | (simp only [List.length_append, List.length_cons, List.length_nil]; omega)) (fun k => ?_) | fail)
      | (show AOp _ _ ⟨_, .call ⟨.value _, _, _⟩, _, _, _, _⟩ _ _ _; first | refine Bn Y Y Y Y Y (by first | (apply hN <;> (first | assumption | omega | exact A4 _ _ | exact Bd _ | exact A7 _ _ | exact Bi _ | rfl | (simp; omega))) | fail) ?_ | fail)
      | refine r_q hG Y Y Y ?_))
    | (show AL _ _ _ _ _ _ _ _; first | refine Bk Y Y Y ?_ | (refine Ar ?_; first | show AW _ _ _ _ _ _ | show ∃ x', _ < _ ∧ _)) | (show AW _ _ (.seq _ _) _ _ _; refine Ai ?_; intro Q1) | (show AW _ _ (.region _ _ false) _ _ _; refine Ad ?_; intro O1) | (show AW _ _ (.cond _ _ _) _ _ _; first | refine Ao Y ?_ | refine Ap Y ?_ | refine Ba Y (fun h => ?_) (fun h => ?_)) | (show AW _ _ (.skip) _ _ _; refine Aj ?_; first | show AW _ _ _ _ _ _ | show ∃ x', _ < _ ∧ _) | (show AW _ _ (.block _ _) _ _ _; refine Ae ?_; intro Q1) | (show AW _ _ (.exit _) _ _ _; refine Al ?_; first | show AW _ _ _ _ _ _ | show ∃ x', _ < _ ∧ _) | (show AW _ _ (.ret) _ _ _; refine Aw ?_; try dsimp only [Ax, Aa, A2, Af]) | fail)
        exact ⟨⟨q + 1, y, by omega⟩, by dsimp only; omega, (.cons rfl (.consW rfl (.eq (by dsimp only; rw [hks])) (.cons rfl (.cons rfl (.cons rfl (.nil _)))))), by dsimp only; rw [hks]; exact .refl _⟩
      | cons z g =>
        repeat' (first
    | ((show AL _ _ _ _ _ _ _ _; refine Ag Y ?_); (first
      | refine Aq hG Y Y ?_
      | refine A5 hG Y Y ?_
      | (show AOp _ _ ⟨_, .call ⟨.builtin .len, _, _⟩, _, _, _, _⟩ _ _ _; first | refine Bh hG Y Y Y Y ?_ | refine Bq hG Y Y Y Y Y ?_)
      | (show AOp _ _ ⟨_, .binOp .add _ _ _ _, _, _, _, _⟩ _ _ _; first | refine Ac hG Y Y Y Y Y (by omega) ?_ | refine Ac (m := 1) hG Y Y Y Y Y (by omega) ?_ | refine Ab hG Y Y Y Y Y (by omega) ?_)
      | (show AOp _ _ ⟨_, .binOp _ _ _ _ _, _, _, _, _⟩ _ _ _; first | refine At hG Y Y Y Y Y (by omega) ?_ | refine Au hG Y Y Y Y Y (by omega) ?_ | (refine Am hG Y Y Y Y Y (fun h => ?_) (fun h => ?_)))
      | (show AOp _ _ ⟨_, .load _ _, _, _, _, _⟩ _ _ _; first | refine Ak (α := UInt16) 0 hG Y Y Y Y (by omega) Y ?_ | refine Ak (α := UInt16) 1 hG Y Y Y Y (by omega) Y ?_ | refine Ay hG Y Y Y ?_ | refine Bg 0 hG Y Y Y Y ?_)
      | (show AOp _ _ ⟨_, .indexAddr _ _ _, _, _, _, _⟩ _ _ _; first | refine A1 hG Y Y Y Y Y Y Y (by omega) ?_ | refine A0 hG Y Y Y Y Y Y Y (by omega) ?_ | refine Az hG Y Y Y Y Y Y Y (by omega) ?_ | refine A9 hG Y Y ?_)
      | (show AOp _ _ ⟨_, .buildSlice _ _ _, _, _, _, _⟩ _ _ _; first | refine r_mk (sz := 1) hG Y Y Y Y Y Y Y ?_)
      | (show AOp _ _ ⟨_, .call ⟨.builtin .append, _, _⟩, _, _, _, _⟩ _ _ _; first | refine Bo (sz := 1) (xs := []) hG Y Y Y Y Y Y Y ⟨_, Y⟩ Y Y Y Y Y Y Y (by first | omega | (simp; omega)) (fun k => ?_) | refine Bp 0 hG Y Y Y Y Y Y Y ⟨_, Y⟩ Y Y Y Y Y (by first | omega | (simp only [List.length_append, List.length_cons, List.length_nil]; omega)) (fun k => ?_) | fail)
      | (show AOp _ _ ⟨_, .call ⟨.value _, _, _⟩, _, _, _, _⟩ _ _ _; first | refine Bn Y Y Y Y Y (by first | (apply hN <;> (first | assumption | omega | exact A4 _ _ | exact Bd _ | exact A7 _ _ | exact Bi _ | rfl | (simp; omega))) | fail) ?_ | fail)
      | refine r_q hG Y Y Y ?_))
    | (show AL _ _ _ _ _ _ _ _; first | refine Bk Y Y Y ?_ | (refine Ar ?_; first | show AW _ _ _ _ _ _ | show ∃ x', _ < _ ∧ _)) | (show AW _ _ (.seq _ _) _ _ _; refine Ai ?_; intro Q1) | (show AW _ _ (.region _ _ false) _ _ _; refine Ad ?_; intro O1) | (show AW _ _ (.cond _ _ _) _ _ _; first | refine Ao Y ?_ | refine Ap Y ?_ | refine Ba Y (fun h => ?_) (fun h => ?_)) | (show AW _ _ (.skip) _ _ _; refine Aj ?_; first | show AW _ _ _ _ _ _ | show ∃ x', _ < _ ∧ _) | (show AW _ _ (.block _ _) _ _ _; refine Ae ?_; intro Q1) | (show AW _ _ (.exit _) _ _ _; refine Al ?_; first | show AW _ _ _ _ _ _ | show ∃ x', _ < _ ∧ _) | (show AW _ _ (.ret) _ _ _; refine Aw ?_; try dsimp only [Ax, Aa, A2, Af]) | fail)
        exact ⟨⟨q + 1, y, by omega⟩, by dsimp only; omega, (.cons rfl (.consW rfl (.eq (by dsimp only; rw [hks])) (.cons rfl (.cons rfl (.cons rfl (.nil _)))))), by dsimp only; rw [hks]; exact .refl _⟩
  · have hqe : r.take q = r := List.take_of_length_le (by omega)
    rw [hqe]
    have hgl : (r.filter fun id => decide (v ∈ B8 id)).length ≤ 255 := Nat.le_trans (List.length_filter_le _ _) hrl
    obtain ⟨g, hg⟩ : ∃ g, (r.filter fun id => decide (v ∈ B8 id)) = g := ⟨_, rfl⟩
    rw [hg]
    rw [hg] at hgl
    have hR : srtL (r.filter fun id => decide (v ∈ B8 id)) = srtL g := by rw [hg]
    have hgl2 := srtL_len g
    cases g with
    | nil =>
      have hs0 := sort0
      repeat' (first
    | ((show AL _ _ _ _ _ _ _ _; refine Ag Y ?_); (first
      | refine Aq hG Y Y ?_
      | refine A5 hG Y Y ?_
      | (show AOp _ _ ⟨_, .call ⟨.builtin .len, _, _⟩, _, _, _, _⟩ _ _ _; first | refine Bh hG Y Y Y Y ?_ | refine Bq hG Y Y Y Y Y ?_)
      | (show AOp _ _ ⟨_, .binOp .add _ _ _ _, _, _, _, _⟩ _ _ _; first | refine Ac hG Y Y Y Y Y (by omega) ?_ | refine Ac (m := 1) hG Y Y Y Y Y (by omega) ?_ | refine Ab hG Y Y Y Y Y (by omega) ?_)
      | (show AOp _ _ ⟨_, .binOp _ _ _ _ _, _, _, _, _⟩ _ _ _; first | refine At hG Y Y Y Y Y (by omega) ?_ | refine Au hG Y Y Y Y Y (by omega) ?_ | (refine Am hG Y Y Y Y Y (fun h => ?_) (fun h => ?_)))
      | (show AOp _ _ ⟨_, .load _ _, _, _, _, _⟩ _ _ _; first | refine Ak (α := UInt16) 0 hG Y Y Y Y (by omega) Y ?_ | refine Ak (α := UInt16) 1 hG Y Y Y Y (by omega) Y ?_ | refine Ay hG Y Y Y ?_ | refine Bg 0 hG Y Y Y Y ?_)
      | (show AOp _ _ ⟨_, .indexAddr _ _ _, _, _, _, _⟩ _ _ _; first | refine A1 hG Y Y Y Y Y Y Y (by omega) ?_ | refine A0 hG Y Y Y Y Y Y Y (by omega) ?_ | refine Az hG Y Y Y Y Y Y Y (by omega) ?_ | refine A9 hG Y Y ?_)
      | (show AOp _ _ ⟨_, .buildSlice _ _ _, _, _, _, _⟩ _ _ _; first | refine r_mk (sz := 1) hG Y Y Y Y Y Y Y ?_)
      | (show AOp _ _ ⟨_, .call ⟨.builtin .append, _, _⟩, _, _, _, _⟩ _ _ _; first | refine Bo (sz := 1) (xs := []) hG Y Y Y Y Y Y Y ⟨_, Y⟩ Y Y Y Y Y Y Y (by first | omega | (simp; omega)) (fun k => ?_) | refine Bp 0 hG Y Y Y Y Y Y Y ⟨_, Y⟩ Y Y Y Y Y (by first | omega | (simp only [List.length_append, List.length_cons, List.length_nil]; omega)) (fun k => ?_) | fail)
      | (show AOp _ _ ⟨_, .call ⟨.value _, _, _⟩, _, _, _, _⟩ _ _ _; first | refine Bn Y Y Y Y Y (by first | (apply hs0 <;> (first | assumption | omega | exact A4 _ _ | exact Bd _ | exact A7 _ _ | exact Bi _ | rfl | (simp; omega))) | fail) ?_ | fail)
      | refine r_q hG Y Y Y ?_))
    | (show AL _ _ _ _ _ _ _ _; first | refine Bk Y Y Y ?_ | (refine Ar ?_; first | show AW _ _ _ _ _ _ | show ∃ x', _ < _ ∧ _)) | (show AW _ _ (.seq _ _) _ _ _; refine Ai ?_; intro Q1) | (show AW _ _ (.region _ _ false) _ _ _; refine Ad ?_; intro O1) | (show AW _ _ (.cond _ _ _) _ _ _; first | refine Ao Y ?_ | refine Ap Y ?_ | refine Ba Y (fun h => ?_) (fun h => ?_)) | (show AW _ _ (.skip) _ _ _; refine Aj ?_; first | show AW _ _ _ _ _ _ | show ∃ x', _ < _ ∧ _) | (show AW _ _ (.block _ _) _ _ _; refine Ae ?_; intro Q1) | (show AW _ _ (.exit _) _ _ _; refine Al ?_; first | show AW _ _ _ _ _ _ | show ∃ x', _ < _ ∧ _) | (show AW _ _ (.ret) _ _ _; refine Aw ?_; try dsimp only [Ax, Aa, A2, Af]) | fail)
      rw [hR, List.length_eq_zero_iff.1 hgl2]
      exact Bu (Bm rfl Bl) (.nil 1) rfl
    | cons z g =>
      have hs1 := srt_sort (d0 := (z :: g).toArray) (by simp at hgl ⊢; omega)
      have hsz : (z :: g).toArray.size = (z :: g).length := rfl
      repeat' (first
    | ((show AL _ _ _ _ _ _ _ _; refine Ag Y ?_); (first
      | refine Aq hG Y Y ?_
      | refine A5 hG Y Y ?_
      | (show AOp _ _ ⟨_, .call ⟨.builtin .len, _, _⟩, _, _, _, _⟩ _ _ _; first | refine Bh hG Y Y Y Y ?_ | refine Bq hG Y Y Y Y Y ?_)
      | (show AOp _ _ ⟨_, .binOp .add _ _ _ _, _, _, _, _⟩ _ _ _; first | refine Ac hG Y Y Y Y Y (by omega) ?_ | refine Ac (m := 1) hG Y Y Y Y Y (by omega) ?_ | refine Ab hG Y Y Y Y Y (by omega) ?_)
      | (show AOp _ _ ⟨_, .binOp _ _ _ _ _, _, _, _, _⟩ _ _ _; first | refine At hG Y Y Y Y Y (by omega) ?_ | refine Au hG Y Y Y Y Y (by omega) ?_ | (refine Am hG Y Y Y Y Y (fun h => ?_) (fun h => ?_)))
      | (show AOp _ _ ⟨_, .load _ _, _, _, _, _⟩ _ _ _; first | refine Ak (α := UInt16) 0 hG Y Y Y Y (by omega) Y ?_ | refine Ak (α := UInt16) 1 hG Y Y Y Y (by omega) Y ?_ | refine Ay hG Y Y Y ?_ | refine Bg 0 hG Y Y Y Y ?_)
      | (show AOp _ _ ⟨_, .indexAddr _ _ _, _, _, _, _⟩ _ _ _; first | refine A1 hG Y Y Y Y Y Y Y (by omega) ?_ | refine A0 hG Y Y Y Y Y Y Y (by omega) ?_ | refine Az hG Y Y Y Y Y Y Y (by omega) ?_ | refine A9 hG Y Y ?_)
      | (show AOp _ _ ⟨_, .buildSlice _ _ _, _, _, _, _⟩ _ _ _; first | refine r_mk (sz := 1) hG Y Y Y Y Y Y Y ?_)
      | (show AOp _ _ ⟨_, .call ⟨.builtin .append, _, _⟩, _, _, _, _⟩ _ _ _; first | refine Bo (sz := 1) (xs := []) hG Y Y Y Y Y Y Y ⟨_, Y⟩ Y Y Y Y Y Y Y (by first | omega | (simp; omega)) (fun k => ?_) | refine Bp 0 hG Y Y Y Y Y Y Y ⟨_, Y⟩ Y Y Y Y Y (by first | omega | (simp only [List.length_append, List.length_cons, List.length_nil]; omega)) (fun k => ?_) | fail)
      | (show AOp _ _ ⟨_, .call ⟨.value _, _, _⟩, _, _, _, _⟩ _ _ _; first | refine r_row Y Y Y Y Y (List.Perm.refl _) hs1 (by assumption) ?_ | fail)
      | refine r_q hG Y Y Y ?_))
    | (show AL _ _ _ _ _ _ _ _; first | refine Bk Y Y Y ?_ | (refine Ar ?_; first | show AW _ _ _ _ _ _ | show ∃ x', _ < _ ∧ _)) | (show AW _ _ (.seq _ _) _ _ _; refine Ai ?_; intro Q1) | (show AW _ _ (.region _ _ false) _ _ _; (fail_if_success show AW _ _ (.region 9 _ _) _ _ _); refine Ad ?_; intro O1) | (show AW _ _ (.cond _ _ _) _ _ _; first | refine Ao Y ?_ | refine Ap Y ?_ | refine Ba Y (fun h => ?_) (fun h => ?_)) | (show AW _ _ (.skip) _ _ _; refine Aj ?_; first | show AW _ _ _ _ _ _ | show ∃ x', _ < _ ∧ _) | (show AW _ _ (.block _ _) _ _ _; refine Ae ?_; intro Q1) | (show AW _ _ (.exit _) _ _ _; refine Al ?_; first | show AW _ _ _ _ _ _ | show ∃ x', _ < _ ∧ _) | (show AW _ _ (.ret) _ _ _; refine Aw ?_; try dsimp only [Ax, Aa, A2, Af]) | fail)
      have es : rowT mT (Go.Sort.sort ltQ (z :: g).toArray) = (srtL (z :: g)).map mT := by
        unfold srtL rowT; induction (Go.Sort.sort ltQ (z :: g).toArray).toList with
        | nil => rfl
        | cons a l ih => simpa [flat, Ah] using ih
      rw [es]
      have hln : ((srtL (z :: g)).map mT).length = g.length + 1 := by rw [List.length_map, hgl2]; rfl
      refine aw_freeze 0 5 rfl rfl ?_ ?_ ?_
      · rw [hln]; simp
      · refine List.all_eq_true.2 fun c hc => ?_
        obtain ⟨x, _, rfl⟩ := List.mem_map.1 (List.mem_of_mem_drop (List.mem_of_mem_take hc))
        rfl
      have ec : chunks 1 (z :: g).length ((((srtL (z :: g)).map mT).drop 0).take ((z :: g).length * 1)) = (srtL (z :: g)).map mT := by
        rw [List.drop_zero, List.take_of_length_le (by rw [hln]; simp)]
        exact chunks_one _ _ hln
      rw [ec]
      repeat' (first
    | ((show AL _ _ _ _ _ _ _ _; refine Ag Y ?_); (first
      | refine Aq hG Y Y ?_
      | refine A5 hG Y Y ?_
      | (show AOp _ _ ⟨_, .call ⟨.builtin .len, _, _⟩, _, _, _, _⟩ _ _ _; first | refine Bh hG Y Y Y Y ?_ | refine Bq hG Y Y Y Y Y ?_)
      | (show AOp _ _ ⟨_, .binOp .add _ _ _ _, _, _, _, _⟩ _ _ _; first | refine Ac hG Y Y Y Y Y (by omega) ?_ | refine Ac (m := 1) hG Y Y Y Y Y (by omega) ?_ | refine Ab hG Y Y Y Y Y (by omega) ?_)
      | (show AOp _ _ ⟨_, .binOp _ _ _ _ _, _, _, _, _⟩ _ _ _; first | refine At hG Y Y Y Y Y (by omega) ?_ | refine Au hG Y Y Y Y Y (by omega) ?_ | (refine Am hG Y Y Y Y Y (fun h => ?_) (fun h => ?_)))
      | (show AOp _ _ ⟨_, .load _ _, _, _, _, _⟩ _ _ _; first | refine Ak (α := UInt16) 0 hG Y Y Y Y (by omega) Y ?_ | refine Ak (α := UInt16) 1 hG Y Y Y Y (by omega) Y ?_ | refine Ay hG Y Y Y ?_ | refine Bg 0 hG Y Y Y Y ?_)
      | (show AOp _ _ ⟨_, .indexAddr _ _ _, _, _, _, _⟩ _ _ _; first | refine A1 hG Y Y Y Y Y Y Y (by omega) ?_ | refine A0 hG Y Y Y Y Y Y Y (by omega) ?_ | refine Az hG Y Y Y Y Y Y Y (by omega) ?_ | refine A9 hG Y Y ?_)
      | (show AOp _ _ ⟨_, .buildSlice _ _ _, _, _, _, _⟩ _ _ _; first | refine r_mk (sz := 1) hG Y Y Y Y Y Y Y ?_)
      | (show AOp _ _ ⟨_, .call ⟨.builtin .append, _, _⟩, _, _, _, _⟩ _ _ _; first | refine Bo (sz := 1) (xs := []) hG Y Y Y Y Y Y Y ⟨_, Y⟩ Y Y Y Y Y Y Y (by first | omega | (simp; omega)) (fun k => ?_) | refine Bp 0 hG Y Y Y Y Y Y Y ⟨_, Y⟩ Y Y Y Y Y (by first | omega | (simp only [List.length_append, List.length_cons, List.length_nil]; omega)) (fun k => ?_) | fail)
      | refine r_q hG Y Y Y ?_))
    | (show AL _ _ _ _ _ _ _ _; first | refine Bk Y Y Y ?_ | (refine Ar ?_; first | show AW _ _ _ _ _ _ | show ∃ x', _ < _ ∧ _)) | (show AW _ _ (.seq _ _) _ _ _; refine Ai ?_; intro Q1) | (show AW _ _ (.region _ _ false) _ _ _; refine Ad ?_; intro O1) | (show AW _ _ (.cond _ _ _) _ _ _; first | refine Ao Y ?_ | refine Ap Y ?_ | refine Ba Y (fun h => ?_) (fun h => ?_)) | (show AW _ _ (.skip) _ _ _; refine Aj ?_; first | show AW _ _ _ _ _ _ | show ∃ x', _ < _ ∧ _) | (show AW _ _ (.block _ _) _ _ _; refine Ae ?_; intro Q1) | (show AW _ _ (.exit _) _ _ _; refine Al ?_; first | show AW _ _ _ _ _ _ | show ∃ x', _ < _ ∧ _) | (show AW _ _ (.ret) _ _ _; refine Aw ?_; try dsimp only [Ax, Aa, A2, Af]) | fail)
      rw [hR]
      exact Bu (Bm rfl Bl) (.refl _) rfl
end Go.Proofs.Ytmckbfdklcmogaa
namespace Go.Ts
theorem kfind_set {k : Nat} {v : Int} : ∀ (m : List (Nat × Int)) (i p : Nat) (w : Int), kfind k m i = some (p + i, w) → (∀ k', (kfind k' (m.set p (k, v)) i).map (·.2) = if k' = k then some v else (kfind k' m i).map (·.2)) ∧ (m.set p (k, v)).map (·.1) = m.map (·.1)
  | [], i, p, w, h => by cases h
  | q :: m, i, p, w, h => by
    rw [kfind] at h
    by_cases h1 : k = q.1
    · rw [if_pos h1] at h
      injection h with h; injection h with h2 h3
      obtain rfl : p = 0 := by omega
      refine ⟨fun k' => ?_, by simp [h1]⟩
      rw [List.set_cons_zero, kfind]
      by_cases h4 : k' = k
      · simp [h4]
      · rw [if_neg (by simpa using h4), if_neg h4, kfind, if_neg (by rw [← h1]; exact h4)]
    · rw [if_neg h1] at h
      have hp : ∀ (m : List (Nat × Int)) (i : Nat) (x : Nat × Int), kfind k m i = some x → i ≤ x.1 := by
        intro m
        induction m with
        | nil => intro i x h; cases h
        | cons q m ih =>
          intro i x h
          rw [kfind] at h; split at h
          · injection h with h; subst h; exact Nat.le_refl _
          · have := ih _ _ h; omega
      have := hp _ _ _ h
      obtain ⟨p, rfl⟩ : ∃ p', p = p' + 1 := ⟨p - 1, by dsimp only at this; omega⟩
      obtain ⟨e1, e2⟩ := kfind_set m (i + 1) p w (by rw [h]; congr 2; omega)
      refine ⟨fun k' => ?_, by rw [List.set_cons_succ, List.map_cons, List.map_cons, e2]⟩
      rw [List.set_cons_succ, kfind, kfind]
      by_cases h4 : k' = q.1
      · rw [if_pos h4, if_pos h4, if_neg (by rw [h4]; exact fun h5 => h1 h5.symm)]
      · rw [if_neg h4, if_neg h4]; exact e1 k'
theorem kfind_app {k : Nat} {v : Int} : ∀ (m : List (Nat × Int)) (i : Nat) (k' : Nat), (kfind k' (m ++ [(k, v)]) i).map (·.2) = match kfind k' m i with
    | some x => some x.2
    | none => if k' = k then some v else none
  | [], i, k' => by
    by_cases h : k' = k <;> simp [kfind, h]
  | q :: m, i, k' => by
    rw [List.cons_append, kfind, kfind]
    by_cases h : k' = q.1
    · rw [if_pos h, if_pos h]; rfl
    · rw [if_neg h, if_neg h]; exact kfind_app m (i + 1) k'
theorem khas_iff {k : Nat} : ∀ (m : List (Nat × Int)) (i : Nat), (kfind k m i).isSome = true ↔ k ∈ m.map (·.1)
  | [], i => by simp [kfind]
  | q :: m, i => by
    rw [kfind]
    by_cases h : k = q.1
    · simp [h]
    · rw [if_neg h, khas_iff m (i + 1)]; simp [h]
theorem klook_kset (m : List (Nat × Int)) (k : Nat) (v : Int) (k' : Nat) : klook (kset m k v) k' = if k' = k then v else klook m k' := by
  unfold klook kset
  cases h : kfind k m 0 with
  | some x =>
    obtain ⟨p, w⟩ := x
    dsimp only
    rw [(kfind_set m 0 p w h).1 k']
    split <;> rfl
  | none =>
    dsimp only
    rw [kfind_app]
    by_cases h1 : k' = k
    · subst h1; rw [h]; simp
    · rw [if_neg h1]
      cases kfind k' m 0 <;> simp [h1]
theorem keys_kset (m : List (Nat × Int)) (k : Nat) (v : Int) : (kset m k v).map (·.1) = if k ∈ m.map (·.1) then m.map (·.1) else m.map (·.1) ++ [k] := by
  unfold kset
  cases h : kfind k m 0 with
  | some x =>
    obtain ⟨p, w⟩ := x
    rw [if_pos ((khas_iff m 0).1 (by rw [h]; rfl))]
    exact (kfind_set m 0 p w h).2
  | none =>
    rw [if_neg (fun h1 => by have := (khas_iff m 0).2 h1; rw [h] at this; cases this)]
    simp
theorem klook_mem {m : List (Nat × Int)} {k : Nat} (h : klook m k = 1) : k ∈ m.map (·.1) := by
  refine (khas_iff m 0).1 ?_
  unfold klook at h
  cases e : kfind k m 0 with
  | none => rw [e] at h; cases h
  | some x => rfl
end Go.Ts
namespace Go.Proofs.Ytmckbfdklcmogaa
open Go.Ts
set_option linter.unusedSimpArgs false
set_option linter.unusedVariables false
def hasO (l : List OB) (id : Nat) : Prop := ∃ o ∈ l, o.id = id
def boxO (l : List OB) (id : Nat) : Prop := ∃ o ∈ l, o.id = id ∧ o.kind = 1
theorem kinds_spec : ∀ (l : List OB) (m : List (Nat × Int)), (m.map (·.1)).Nodup → ((l.foldl kstep m).map (·.1)).Nodup ∧
    (∀ k, k ∈ (l.foldl kstep m).map (·.1) ↔ k ∈ m.map (·.1) ∨ ((nm 6 k).isSome = true ∧ hasO l k)) ∧ (∀ k, klook (l.foldl kstep m) k = 1 ↔ klook m k = 1 ∨ ((nm 6 k).isSome = true ∧ boxO l k))
  | [], m, h => ⟨h, fun k => by simp [hasO], fun k => by simp [boxO]⟩
  | o :: l, m, h => by
    rw [List.foldl_cons]
    unfold kstep
    by_cases h1 : (nm 6 o.id).isSome = true ∧ klook m o.id ≠ 1
    · rw [if_pos h1]
      have hn : ((kset m o.id o.kind).map (·.1)).Nodup := by
        rw [keys_kset]; split
        · exact h
        · rename_i h2
          refine List.nodup_append.2 ⟨h, by simp, fun a ha b hb => ?_⟩
          simp at hb; subst hb; rintro rfl; exact h2 ha
      obtain ⟨e1, e2, e3⟩ := kinds_spec l (kset m o.id o.kind) hn
      refine ⟨e1, fun k => ?_, fun k => ?_⟩
      · refine (e2 k).trans ?_
        have : k ∈ (kset m o.id o.kind).map (·.1) ↔ k = o.id ∨ k ∈ m.map (·.1) := by
          rw [keys_kset]; split
          · rename_i h2
            exact ⟨.inr, fun h => h.elim (fun h => h ▸ h2) id⟩
          · simp [or_comm]
        rw [this]
        unfold hasO
        constructor
        · rintro ((rfl | h2) | ⟨h2, o', h3, h4⟩)
          · exact .inr ⟨h1.1, o, by simp, rfl⟩
          · exact .inl h2
          · exact .inr ⟨h2, o', by simp [h3], h4⟩
        · rintro (h2 | ⟨h2, o', h3, h4⟩)
          · exact .inl (.inr h2)
          · rcases List.mem_cons.1 h3 with rfl | h3
            · exact .inl (.inl h4.symm)
            · exact .inr ⟨h2, o', h3, h4⟩
      · refine (e3 k).trans ?_
        rw [klook_kset]
        unfold boxO
        by_cases h2 : k = o.id
        · subst h2
          rw [if_pos rfl]
          constructor
          · rintro (h3 | ⟨h3, o', h4, h5⟩)
            · exact .inr ⟨h1.1, o, by simp, rfl, h3⟩
            · exact .inr ⟨h3, o', by simp [h4], h5⟩
          · rintro (h3 | ⟨h3, o', h4, h5⟩)
            · exact absurd h3 h1.2
            · rcases List.mem_cons.1 h4 with rfl | h4
              · exact .inl h5.2
              · exact .inr ⟨h3, o', h4, h5⟩
        · rw [if_neg h2]
          constructor
          · rintro (h3 | ⟨h3, o', h4, h5⟩)
            · exact .inl h3
            · exact .inr ⟨h3, o', by simp [h4], h5⟩
          · rintro (h3 | ⟨h3, o', h4, h5⟩)
            · exact .inl h3
            · rcases List.mem_cons.1 h4 with rfl | h4
              · exact absurd h5.1.symm h2
              · exact .inr ⟨h3, o', h4, h5⟩
    · rw [if_neg h1]
      obtain ⟨e1, e2, e3⟩ := kinds_spec l m h
      have h2 : (nm 6 o.id).isSome = true → klook m o.id = 1 := fun h3 => Classical.byContradiction fun h4 => h1 ⟨h3, h4⟩
      refine ⟨e1, fun k => (e2 k).trans ?_, fun k => (e3 k).trans ?_⟩
      · unfold hasO
        constructor
        · rintro (h3 | ⟨h3, o', h4, h5⟩)
          · exact .inl h3
          · exact .inr ⟨h3, o', by simp [h4], h5⟩
        · rintro (h3 | ⟨h3, o', h4, h5⟩)
          · exact .inl h3
          · rcases List.mem_cons.1 h4 with rfl | h4
            · subst h5; exact .inl (klook_mem (h2 h3))
            · exact .inr ⟨h3, o', h4, h5⟩
      · unfold boxO
        constructor
        · rintro (h3 | ⟨h3, o', h4, h5⟩)
          · exact .inl h3
          · exact .inr ⟨h3, o', by simp [h4], h5⟩
        · rintro (h3 | ⟨h3, o', h4, h5⟩)
          · exact .inl h3
          · rcases List.mem_cons.1 h4 with rfl | h4
            · obtain ⟨rfl, h6⟩ := h5; exact .inl (h2 h3)
            · exact .inr ⟨h3, o', h4, h5⟩
theorem kinds_nodup (l : List OB) : ((kinds l).map (·.1)).Nodup := (kinds_spec l [] (by simp)).1
theorem kinds_mem (l : List OB) (k : Nat) : k ∈ (kinds l).map (·.1) ↔ (nm 6 k).isSome = true ∧ hasO l k := by
  exact ((kinds_spec l [] (by simp)).2.1 k).trans (by simp)
theorem kinds_box (l : List OB) (k : Nat) : klook (kinds l) k = 1 ↔ (nm 6 k).isSome = true ∧ boxO l k := by
  have := (kinds_spec l [] (by simp)).2.2 k
  rwa [show (klook [] k = 1) = False by simp [klook, kfind], false_or] at this
def lev (m : List (Nat × Int)) : Nat → List Nat
  | 0 => if khas m 1 = true then [1] else []
  | d + 1 => nextL m (lev m d)
def levs (m : List (Nat × Int)) (d : Nat) : Nat → List Nat
  | 0 => []
  | f + 1 => lev m d ++ levs m (d + 1) f
theorem srtL_nil : srtL [] = [] := List.length_eq_zero_iff.1 (srtL_len [])
theorem nextL_nil (m : List (Nat × Int)) : nextL m [] = [] := by
  unfold nextL
  rw [List.filter_eq_nil_iff.2 (fun a _ => by simp [belowP]), srtL_nil]
theorem levs_nil (m : List (Nat × Int)) : ∀ (f d : Nat), lev m d = [] → levs m d f = []
  | 0, d, h => rfl
  | f + 1, d, h => by rw [levs, h, levs_nil m f (d + 1) (by rw [lev, h, nextL_nil])]; rfl
theorem reachGo_levs (m : List (Nat × Int)) : ∀ (f d : Nat) (out : List Nat), reachGo m f (lev m d) out = out ++ levs m d f
  | 0, d, out => by simp [reachGo, levs]
  | f + 1, d, out => by
    rw [reachGo]; split
    · rename_i h; rw [levs_nil m _ d h, List.append_nil]
    · rw [show nextL m (lev m d) = lev m (d + 1) from rfl, reachGo_levs m f (d + 1), levs, List.append_assoc]
theorem reachL_levs (l : List OB) : reachL l = levs (kinds l) 0 8 := by
  unfold reachL
  rw [show (if khas (kinds l) 1 = true then [1] else []) = lev (kinds l) 0 from rfl, reachGo_levs, List.nil_append]
theorem levs_snoc (m : List (Nat × Int)) : ∀ (f d : Nat), levs m d (f + 1) = levs m d f ++ lev m (d + f)
  | 0, d => by simp [levs]
  | f + 1, d => by
    rw [levs, levs_snoc m f (d + 1), levs, List.append_assoc, show d + 1 + f = d + (f + 1) by omega]
def Rd (l : List OB) : Nat → Nat → Prop
  | 0, id => id = 1 ∧ hasO l 1
  | d + 1, id => hasO l id ∧ (nm 6 id).isSome = true ∧ Rd l d (parN id) ∧ boxO l (parN id)
theorem Rd_depth {l : List OB} : ∀ {d id : Nat}, Rd l d id → ∃ ns, nm 6 id = some ns ∧ ns.length = d
  | 0, id, h => by obtain ⟨rfl, _⟩ := h; exact ⟨[], nm_one 6, rfl⟩
  | d + 1, id, ⟨_, _, h, _⟩ => by
    obtain ⟨ns, h1, h2⟩ := Rd_depth h
    obtain ⟨x, h3⟩ := par_depth h1
    exact ⟨x :: ns, h3, by simp [h2]⟩
theorem lev_mem (l : List OB) : ∀ (d id : Nat), id ∈ lev (kinds l) d ↔ Rd l d id
  | 0, id => by
    have h1 : khas (kinds l) 1 = true ↔ hasO l 1 := by
      rw [khas, khas_iff, kinds_mem, nm_one]; simp
    unfold lev
    rw [Rd, ← h1]
    split <;> simp [*]
  | d + 1, id => by
    unfold lev nextL
    rw [(srtL_spec _).1.mem_iff, List.mem_filter, kinds_mem, Rd]
    have e : belowP (kinds l) (lev (kinds l) d) id = true ↔ Rd l d (parN id) ∧ boxO l (parN id) := by
      simp only [belowP, Bool.and_eq_true, decide_eq_true_eq, lev_mem l d, kinds_box]
      constructor
      · rintro ⟨h1, h2, h3⟩; exact ⟨h1, h3⟩
      · rintro ⟨h1, h3⟩
        obtain ⟨ns, h2, _⟩ := Rd_depth h1
        exact ⟨h1, by rw [h2]; rfl, h3⟩
    rw [e]
    constructor
    · rintro ⟨⟨h1, h2⟩, h3, h4⟩; exact ⟨h2, h1, h3, h4⟩
    · rintro ⟨h2, h1, h3, h4⟩; exact ⟨⟨h1, h2⟩, h3, h4⟩
theorem srtL_up {l : List Nat} (h : l.Nodup) : (srtL l).Pairwise (· < ·) := by
  have h1 := (srtL_spec l).2
  have h2 : (srtL l).Nodup := (srtL_spec l).1.nodup_iff.2 h
  exact (h1.and h2).imp fun ⟨h3, h4⟩ => by omega
theorem lev_up (l : List OB) (d : Nat) : (lev (kinds l) d).Pairwise (· < ·) := by
  cases d with
  | zero => unfold lev; split <;> simp
  | succ d => exact srtL_up ((kinds_nodup l).filter _)
theorem up_ext {a b : List Nat} (ha : a.Pairwise (· < ·)) (hb : b.Pairwise (· < ·)) (h : ∀ x, x ∈ a ↔ x ∈ b) : a = b :=
  sorted_eq a b ((List.perm_ext_iff_of_nodup (ha.imp fun h => by omega) (hb.imp fun h => by omega)).2 h) (ha.imp fun h => by omega) (hb.imp fun h => by omega)
theorem path_par {id x : Nat} {ns : List Nat} (h : nm 6 id = some (x :: ns)) : B8 id = B8 (parN id) ++ [id] ∧ nm 6 (parN id) = some ns := by
  have hp : parN id = id / 64 := by unfold parN; rw [h]
  have h1 := (nm_path 6 id _ h).1
  rw [nm] at h
  split at h
  · injection h with h; cases h
  · split at h
    · cases h3 : nm 5 (id / 64) with
      | none => rw [h3] at h; cases h
      | some l3 =>
        rw [h3] at h
        simp at h
        obtain ⟨rfl, rfl⟩ := h
        have h4 := nm_mono h3
        rw [hp]
        refine ⟨?_, h4⟩
        have h5 : nm 6 id = some (id % 64 :: l3) := by
          rw [nm, if_neg (by assumption), if_pos (by assumption), h3]; rfl
        rw [B8, B8, h4, h5]
        simp only [Option.map_some, Option.getD_some]
        rw [pathF] at h1 ⊢
        rw [List.getLastD_concat] at h1
        rw [h1]
    · cases h
end Go.Proofs.Ytmckbfdklcmogaa
namespace Go.Ts
set_option linter.unusedSimpArgs false
set_option linter.unusedVariables false
section
variable {G : Nat → Option TI}
theorem wf_u64 {n : Int} (h : (Lit.int .u64 n).wf = true) : 0 ≤ n ∧ n < 18446744073709551616 := by
  simp only [Lit.wf, IntKind.min, IntKind.max, IntKind.bits, IntKind.signed, Bool.and_eq_true] at h; simp at h; omega
theorem argTy_cells {n t : Nat} {x : T} {ti : TI} (h : ArgTy G n t x) (ht : G t = some ti) (hd : ti.d.agg = false) : Ty G n t [x] := by
  have h1 := h.1
  rwa [(h.2 _ ht).2 hd] at h1
theorem ty_slice {n t e : Nat} {cs : List T} {ti : TI} (h : Ty G (n + 1) t cs) (ht : G t = some ti) (htd : ti.d = .slice e) :
    ∃ xs, cs = [.sl ((sizeT G e).getD 0) .no xs] ∧ xs.length ≤ bigLen ∧ ∀ y ∈ xs, Ty G n e y.cells ∧ AggOK G e y := by
  simpa only [Ty, ht, htd] using h
theorem argTy_struct {n t : Nat} {x : T} {ti : TI} {fs : List (Nat × Nat)} (h : ArgTy G (n + 1) t x) (ht : G t = some ti) (htd : ti.d = .struct fs) : ∃ cs, x = .agg cs ∧ TyFs (Ty G n) fs cs := by
  obtain ⟨c, rfl⟩ := (h.2 _ ht).1 (by rw [htd]; rfl)
  refine ⟨c, rfl, ?_⟩
  have h1 := h.1
  simpa only [Ty, ht, htd, T.cells] using h1
end
end Go.Ts
namespace Go.Proofs.Ytmckbfdklcmogaa
open Go.Ts
set_option linter.unusedSimpArgs false
set_option linter.unusedVariables false
set_option linter.unnecessarySimpa false
attribute [local irreducible] Go.Ts.AW Go.Ts.AOps Go.Ts.AL Go.Ts.AOp Go.Ts.ACalls Go.Ts.DL Go.Ts.DQ0 Go.Ts.EL
def insN (x : Nat) : List Nat → List Nat
  | [] => [x]
  | y :: l => if y < x then y :: insN x l else x :: y :: l
def isort (l : List Nat) : List Nat := l.foldl (fun a x => insN x a) []
theorem insN_perm (x : Nat) : ∀ l : List Nat, (insN x l).Perm (x :: l)
  | [] => .refl _
  | y :: l => by
    rw [insN]; split
    · exact ((insN_perm x l).cons y).trans (.swap x y l)
    · exact .refl _
theorem insN_sorted (x : Nat) : ∀ l : List Nat, l.Pairwise (fun x y => ¬ y < x) → (insN x l).Pairwise (fun x y => ¬ y < x)
  | [], _ => by simp [insN]
  | y :: l, h => by
    obtain ⟨h1, h2⟩ := List.pairwise_cons.1 h
    rw [insN]; split
    · rename_i h3
      refine List.pairwise_cons.2 ⟨fun z hz => ?_, insN_sorted x l h2⟩
      rcases List.mem_cons.1 ((insN_perm x l).mem_iff.1 hz) with rfl | hz
      · omega
      · exact h1 z hz
    · rename_i h3
      refine List.pairwise_cons.2 ⟨fun z hz => ?_, h⟩
      rcases List.mem_cons.1 hz with rfl | hz
      · exact h3
      · have := h1 z hz; omega
theorem isort_spec : ∀ (l a : List Nat), a.Pairwise (fun x y => ¬ y < x) → (l.foldl (fun a x => insN x a) a).Perm (l ++ a) ∧ (l.foldl (fun a x => insN x a) a).Pairwise (fun x y => ¬ y < x)
  | [], a, h => ⟨.refl _, h⟩
  | x :: l, a, h => by
    obtain ⟨h1, h2⟩ := isort_spec l (insN x a) (insN_sorted x a h)
    refine ⟨h1.trans (((insN_perm x a).append_left l).trans ?_), h2⟩
    rw [List.cons_append]; exact List.perm_middle
theorem srtL_isort (l : List Nat) : srtL l = isort l :=
  sorted_eq _ _ ((srtL_spec l).1.trans (by have := (isort_spec l [] .nil).1; rw [List.append_nil] at this; exact this.symm)) (srtL_spec l).2 (isort_spec l [] .nil).2
def reachI (m : List (Nat × Int)) : Nat → List Nat → List Nat → List Nat
  | 0, _, out => out
  | f + 1, lv, out => if lv = [] then out else reachI m f (isort ((m.map (·.1)).filter (belowP m lv))) (out ++ lv)
theorem reachI_eq (m : List (Nat × Int)) : ∀ (f : Nat) (lv out : List Nat), reachGo m f lv out = reachI m f lv out
  | 0, lv, out => rfl
  | f + 1, lv, out => by rw [reachGo, reachI, nextL, srtL_isort, reachI_eq m f]
theorem reachE {own : Own} {xs : List T} {l : List OB} (e : xs = l.map oT) (hl : l.length < 256) {R : List Nat} (hR : reachI (kinds l) 8 (if khas (kinds l) 1 = true then [1] else []) [] = R) : Ts.Pure Try.prog 10 [.sl 13 own xs] (.sl 1 .no (R.map mT)) := by
  refine Pure.weak (us := [.sl 13 .no (l.map oT)]) ?_ (wk1 (by rw [e]; exact .own _ _ _))
  rw [← hR, ← reachI_eq]; exact walk_Reach hl
theorem withinE {own : Own} {xs : List T} {l : List OB} {v : Nat} (e : xs = l.map oT) (hl : l.length ≤ 31) {R : List Nat} (hR : isort ((reachI (kinds l) 8 (if khas (kinds l) 1 = true then [1] else []) []).filter fun id => decide (v ∈ B8 id)) = R) : Ts.Pure Try.prog 12 [.sl 13 own xs, mT v] (.sl 1 .no (R.map mT)) := by
  refine Pure.weak (us := [.sl 13 .no (l.map oT), mT v]) ?_ (wk2 (by rw [e]; exact .own _ _ _) (.refl _))
  rw [← hR, ← reachI_eq, ← srtL_isort]; exact walk_Within hl
def ob0 (id : Nat) (k : Int) (h : id < 18446744073709551616) : OB := ⟨id, k, .int .u8 0, .nilsl, .nilsl, .nilsl, .nilsl, .int .i64 0, .int .i64 0, .int .i64 0, .nilsl, .nilsl, .nilsl, h, rfl⟩
theorem c_begun : Ts.Pure Try.prog 7 [] (.bool true) := by
  have h1 := reachE (own := .full) (l := [ob0 67 2 (by omega), ob0 1 1 (by omega), ob0 6600 2 (by omega)]) (R := [1, 67]) rfl (by simp) (by decide)
  have h2 := withinE (own := .full) (l := [ob0 67 2 (by omega), ob0 1 1 (by omega), ob0 6600 2 (by omega)]) (v := 67) (R := [67]) rfl (by simp) (by decide)
  have n1 : ([1, 67] : List Nat).length = 2 := rfl
  have n2 : ([67] : List Nat).length = 1 := rfl
  intro off
  refine Br (N := 30) (rs := [.tmp 0]) hG Try.func7 rfl rfl rfl rfl rfl ?_
  repeat' (first
    | ((show AL _ _ _ _ _ _ _ _; refine Ag Y ?_); (first
      | refine Aq hG Y Y ?_
      | refine A5 hG Y Y ?_
      | (show AOp _ _ ⟨_, .call ⟨.builtin .len, _, _⟩, _, _, _, _⟩ _ _ _; first | refine Bh hG Y Y Y Y ?_ | refine Bq hG Y Y Y Y Y ?_)
      | (show AOp _ _ ⟨_, .binOp _ _ _ _ _, _, _, _, _⟩ _ _ _; first | refine At hG Y Y Y Y Y (by omega) ?_ | refine Au hG Y Y Y Y Y (by omega) ?_ | (refine Am hG Y Y Y Y Y (fun h => ?_) (fun h => ?_)))
      | (show AOp _ _ ⟨_, .load _ _, _, _, _, _⟩ _ _ _; first | refine Ak (α := UInt16) 0 hG Y Y Y Y (by omega) Y ?_ | refine Ak (α := UInt16) 1 hG Y Y Y Y (by omega) Y ?_ | refine Ay hG Y Y Y ?_ | refine Bg 0 hG Y Y Y Y ?_)
      | (show AOp _ _ ⟨_, .indexAddr _ _ _, _, _, _, _⟩ _ _ _; first | refine A1 hG Y Y Y Y Y Y Y (by omega) ?_ | refine r_idx0 hG Y Y Y Y Y Y Y ?_ | refine A0 hG Y Y Y Y Y Y Y (by omega) ?_ | refine Az hG Y Y Y Y Y Y Y (by omega) ?_ | refine A9 hG Y Y ?_)
      | refine A6 hG Y Y Y ?_
      | (show AOp _ _ ⟨_, .buildSlice _ _ _, _, _, _, _⟩ _ _ _; first | refine r_mk (sz := 13) hG Y Y Y Y Y Y Y ?_)
      | refine r_build hG Y Y Y Y Y ?_
      | (show AOp _ _ ⟨_, .call ⟨.value _, _, _⟩, _, _, _, _⟩ _ _ _; first | refine Bn Y Y Y Y Y (by first | (apply h1 <;> (first | assumption | omega | exact A4 _ _ | exact Bd _ | exact A7 _ _ | exact Bi _ | rfl | (simp; omega))) | fail) ?_ | refine Bn Y Y Y Y Y (by first | (apply h2 <;> (first | assumption | omega | exact A4 _ _ | exact Bd _ | exact A7 _ _ | exact Bi _ | rfl | (simp; omega))) | fail) ?_ | fail)
      | refine r_q hG Y Y Y ?_))
    | (show AL _ _ _ _ _ _ _ _; first | refine Bk Y Y Y ?_ | (refine Ar ?_; first | show AW _ _ _ _ _ _ | show ∃ x', _ < _ ∧ _)) | (show AW _ _ (.seq _ _) _ _ _; refine Ai ?_; intro Q1) | (show AW _ _ (.region _ _ false) _ _ _; refine Ad ?_; intro O1) | (show AW _ _ (.ret) _ _ _; refine Aw ?_; try dsimp only [Ax, Aa, A2, Af]) | fail)
  all_goals first
    | exact Bu (Bm rfl Bl) (.refl _) rfl
    | (exfalso; revert h; decide)
structure ApX (l : List OB) where
  i : Nat
  hi : i ≤ l.length
  hn : ((l.take i).map (·.id)).Nodup
structure ApY (l : List OB) (i : Nat) where
  k : Nat
  hk : k ≤ i
  hn : ∀ j, j < k → (l.getD j default).id ≠ (l.getD i default).id
theorem nodup_snoc {l : List OB} {i : Nat} (hi : i < l.length) (h : ((l.take i).map (·.id)).Nodup) (h2 : ∀ j, j < i → (l.getD j default).id ≠ (l.getD i default).id) : ((l.take (i + 1)).map (·.id)).Nodup := by
  rw [List.take_add_one, List.map_append]
  refine List.nodup_append.2 ⟨h, by simp [hi], fun a ha b hb => ?_⟩
  simp [hi] at hb; subst hb
  obtain ⟨o, ho, rfl⟩ := List.mem_map.1 ha
  obtain ⟨j, hj, rfl⟩ := List.mem_iff_getElem.1 ho
  rw [List.length_take] at hj
  have := h2 j (by omega)
  simpa [List.getD, hi, show j < l.length by omega] using this
set_option maxHeartbeats 1000000 in
theorem law_apart {l : List OB} (hl : l.length ≤ 4294967296) : Ts.Pure Try.prog 8 [.sl 13 .no (l.map oT)] (.bool (decide ((l.map (·.id)).Nodup))) := by
  obtain ⟨R, hR⟩ : ∃ R, decide ((l.map (·.id)).Nodup) = R := ⟨_, rfl⟩
  rw [hR]
  intro off
  refine Br (N := 27) (rs := [.tmp 2]) hG Try.func8 rfl rfl rfl rfl rfl ?_
  repeat' (first
    | ((first | (show AL _ _ _ _ _ _ _ _; refine Ag Y ?_) | (show DL _ _ _ _ _ _ _; refine' A8 Y Y (fun K kk => ?_) ?_; try (show Go.Ts.T; rotate_left))); (first
      | refine Aq hG Y Y ?_
      | refine A5 hG Y Y ?_
      | (show AOp _ _ ⟨_, .call ⟨.builtin .len, _, _⟩, _, _, _, _⟩ _ _ _; first | refine Bh hG Y Y Y Y ?_ | refine Bq hG Y Y Y Y Y ?_)
      | (show AOp _ _ ⟨_, .binOp .add _ _ _ _, _, _, _, _⟩ _ _ _; first | refine Ac hG Y Y Y Y Y (by omega) ?_ | refine Ac (m := 1) hG Y Y Y Y Y (by omega) ?_ | refine Ab hG Y Y Y Y Y (by omega) ?_)
      | (show AOp _ _ ⟨_, .binOp _ _ _ _ _, _, _, _, _⟩ _ _ _; first | refine At hG Y Y Y Y Y (by omega) ?_ | refine Au hG Y Y Y Y Y (by omega) ?_ | ((fail_if_success have := kk); refine Am hG Y Y Y Y Y (fun h => ?_) (fun h => ?_)))
      | (show AOp _ _ ⟨_, .load _ _, _, _, _, _⟩ _ _ _; first | refine Ak (α := UInt16) 0 hG Y Y Y Y (by omega) Y ?_ | refine Ak (α := UInt16) 1 hG Y Y Y Y (by omega) Y ?_ | refine Ay hG Y Y Y ?_ | refine Bg 0 hG Y Y Y Y ?_)
      | (show AOp _ _ ⟨_, .indexAddr _ _ _, _, _, _, _⟩ _ _ _; first | refine A1 hG Y Y Y Y Y Y Y (by omega) ?_ | refine A0 hG Y Y Y Y Y Y Y (by omega) ?_ | refine Az hG Y Y Y Y Y Y Y (by omega) ?_ | refine A9 hG Y Y ?_)
      | refine r_q hG Y Y Y ?_); try exact kk)
    | (show AL _ _ _ _ _ _ _ _; first | refine Bk Y Y Y ?_ | (refine Ar ?_; first | show AW _ _ _ _ _ _ | show ∃ x', _ < _ ∧ _)) | (show AW _ _ (.seq _ _) _ _ _; refine Ai ?_; intro Q1) | (show AW _ _ (.region _ _ false) _ _ _; refine Ad ?_; intro O1) | (show AW _ _ (.cond _ _ _) _ _ _; first | refine Ao Y ?_ | refine Ap Y ?_ | refine Ba Y (fun h => ?_) (fun h => ?_)) | (show AW _ _ (.skip) _ _ _; refine Aj ?_; first | show AW _ _ _ _ _ _ | show ∃ x', _ < _ ∧ _) | (show AW _ _ (.block _ _) _ _ _; refine Ae ?_; intro Q1) | (show AW _ _ (.exit _) _ _ _; refine Al ?_; first | show AW _ _ _ _ _ _ | show ∃ x', _ < _ ∧ _) | (show AW _ _ (.ret) _ _ _; refine Aw ?_; try dsimp only [Ax, Aa, A2, Af])
    | (show DL _ _ _ _ _ _ _; refine Bx Y Y (fun K kt kf => Am hG Y Y Y Y Y kt kf) (fun h => ?_) (fun h => ?_))
    | (show DL _ _ _ _ _ _ _; refine By Y Y Y ?_) | (show DL _ _ _ _ _ _ _; refine Be ?_; first | show AW _ _ _ _ _ _ | show ∃ x', _ < _ ∧ _) | (show AW _ _ (.region _ _ true) _ _ _; refine A3 mix (by kernel_rfl) ?_; intro O1) | fail)
  refine Ch (X := ApX l) (fun x => [(0, .sl 13 .no (l.map oT)), (3, .int .i64 (x.i : Int))]) (fun x => ⟨[], [], off, none⟩) (fun x => l.length - x.i) ⟨0, Nat.zero_le _, by simp⟩ (by repeat (first | exact .nil _ | refine .cons rfl ?_)) (.refl _) ?_
  rintro ⟨i, hi, hn⟩
  dsimp only
  by_cases hil : i < l.length
  · repeat' (first
    | ((first | (show AL _ _ _ _ _ _ _ _; refine Ag Y ?_) | (show DL _ _ _ _ _ _ _; refine' A8 Y Y (fun K kk => ?_) ?_; try (show Go.Ts.T; rotate_left))); (first
      | refine Aq hG Y Y ?_
      | refine A5 hG Y Y ?_
      | (show AOp _ _ ⟨_, .call ⟨.builtin .len, _, _⟩, _, _, _, _⟩ _ _ _; first | refine Bh hG Y Y Y Y ?_ | refine Bq hG Y Y Y Y Y ?_)
      | (show AOp _ _ ⟨_, .binOp .add _ _ _ _, _, _, _, _⟩ _ _ _; first | refine Ac hG Y Y Y Y Y (by omega) ?_ | refine Ac (m := 1) hG Y Y Y Y Y (by omega) ?_ | refine Ab hG Y Y Y Y Y (by omega) ?_)
      | (show AOp _ _ ⟨_, .binOp _ _ _ _ _, _, _, _, _⟩ _ _ _; first | refine At hG Y Y Y Y Y (by omega) ?_ | refine Au hG Y Y Y Y Y (by omega) ?_ | ((fail_if_success have := kk); refine Am hG Y Y Y Y Y (fun h => ?_) (fun h => ?_)))
      | (show AOp _ _ ⟨_, .load _ _, _, _, _, _⟩ _ _ _; first | refine Ak (α := UInt16) 0 hG Y Y Y Y (by omega) Y ?_ | refine Ak (α := UInt16) 1 hG Y Y Y Y (by omega) Y ?_ | refine Ay hG Y Y Y ?_ | refine Bg 0 hG Y Y Y Y ?_)
      | (show AOp _ _ ⟨_, .indexAddr _ _ _, _, _, _, _⟩ _ _ _; first | refine A1 hG Y Y Y Y Y Y Y (by omega) ?_ | refine A0 hG Y Y Y Y Y Y Y (by omega) ?_ | refine Az hG Y Y Y Y Y Y Y (by omega) ?_ | refine A9 hG Y Y ?_)
      | refine r_q hG Y Y Y ?_); try exact kk)
    | (show AL _ _ _ _ _ _ _ _; first | refine Bk Y Y Y ?_ | (refine Ar ?_; first | show AW _ _ _ _ _ _ | show ∃ x', _ < _ ∧ _)) | (show AW _ _ (.seq _ _) _ _ _; refine Ai ?_; intro Q1) | (show AW _ _ (.region _ _ false) _ _ _; refine Ad ?_; intro O1) | (show AW _ _ (.cond _ _ _) _ _ _; first | refine Ao Y ?_ | refine Ap Y ?_ | refine Ba Y (fun h => ?_) (fun h => ?_)) | (show AW _ _ (.skip) _ _ _; refine Aj ?_; first | show AW _ _ _ _ _ _ | show ∃ x', _ < _ ∧ _) | (show AW _ _ (.block _ _) _ _ _; refine Ae ?_; intro Q1) | (show AW _ _ (.exit _) _ _ _; refine Al ?_; first | show AW _ _ _ _ _ _ | show ∃ x', _ < _ ∧ _) | (show AW _ _ (.ret) _ _ _; refine Aw ?_; try dsimp only [Ax, Aa, A2, Af])
    | (show DL _ _ _ _ _ _ _; refine Bx Y Y (fun K kt kf => Am hG Y Y Y Y Y kt kf) (fun h => ?_) (fun h => ?_))
    | (show DL _ _ _ _ _ _ _; refine By Y Y Y ?_) | (show DL _ _ _ _ _ _ _; refine Be ?_; first | show AW _ _ _ _ _ _ | show ∃ x', _ < _ ∧ _) | (show AW _ _ (.region _ _ true) _ _ _; refine A3 mix (by kernel_rfl) ?_; intro O1) | fail)
    refine Ch (X := ApY l i) (fun x => [(0, .sl 13 .no (l.map oT)), (3, .int .i64 (i : Int)), (4, .int .i64 (x.k : Int))]) (fun x => ⟨[], [], off, none⟩) (fun x => i - x.k) ⟨0, Nat.zero_le _, fun j hj => by omega⟩ (by repeat (first | exact .nil _ | refine .cons rfl ?_)) (.refl _) ?_
    rintro ⟨k, hk, hd⟩
    dsimp only
    by_cases hki : k < i
    · by_cases he : (((l.getD i default).id : Nat) : Int) = (((l.getD k default).id : Nat) : Int)
      · repeat' (first
    | ((first | (show AL _ _ _ _ _ _ _ _; refine Ag Y ?_) | (show DL _ _ _ _ _ _ _; refine' A8 Y Y (fun K kk => ?_) ?_; try (show Go.Ts.T; rotate_left))); (first
      | refine Aq hG Y Y ?_
      | refine A5 hG Y Y ?_
      | (show AOp _ _ ⟨_, .call ⟨.builtin .len, _, _⟩, _, _, _, _⟩ _ _ _; first | refine Bh hG Y Y Y Y ?_ | refine Bq hG Y Y Y Y Y ?_)
      | (show AOp _ _ ⟨_, .binOp .add _ _ _ _, _, _, _, _⟩ _ _ _; first | refine Ac hG Y Y Y Y Y (by omega) ?_ | refine Ac (m := 1) hG Y Y Y Y Y (by omega) ?_ | refine Ab hG Y Y Y Y Y (by omega) ?_)
      | (show AOp _ _ ⟨_, .binOp _ _ _ _ _, _, _, _, _⟩ _ _ _; first | refine At hG Y Y Y Y Y (by omega) ?_ | refine Au hG Y Y Y Y Y (by omega) ?_ | ((fail_if_success have := kk); refine Am hG Y Y Y Y Y (fun h => ?_) (fun h => ?_)))
      | (show AOp _ _ ⟨_, .load _ _, _, _, _, _⟩ _ _ _; first | refine Ak (α := UInt16) 0 hG Y Y Y Y (by omega) Y ?_ | refine Ak (α := UInt16) 1 hG Y Y Y Y (by omega) Y ?_ | refine Ay hG Y Y Y ?_ | refine Bg 0 hG Y Y Y Y ?_)
      | (show AOp _ _ ⟨_, .indexAddr _ _ _, _, _, _, _⟩ _ _ _; first | refine A1 hG Y Y Y Y Y Y Y (by omega) ?_ | refine A0 hG Y Y Y Y Y Y Y (by omega) ?_ | refine Az hG Y Y Y Y Y Y Y (by omega) ?_ | refine A9 hG Y Y ?_)
      | refine r_q hG Y Y Y ?_); try exact kk)
    | (show AL _ _ _ _ _ _ _ _; first | refine Bk Y Y Y ?_ | (refine Ar ?_; first | show AW _ _ _ _ _ _ | show ∃ x', _ < _ ∧ _)) | (show AW _ _ (.seq _ _) _ _ _; refine Ai ?_; intro Q1) | (show AW _ _ (.region _ _ false) _ _ _; refine Ad ?_; intro O1) | (show AW _ _ (.cond _ _ _) _ _ _; first | refine Ao Y ?_ | refine Ap Y ?_ | refine Ba Y (fun h => ?_) (fun h => ?_)) | (show AW _ _ (.skip) _ _ _; refine Aj ?_; first | show AW _ _ _ _ _ _ | show ∃ x', _ < _ ∧ _) | (show AW _ _ (.block _ _) _ _ _; refine Ae ?_; intro Q1) | (show AW _ _ (.exit _) _ _ _; refine Al ?_; first | show AW _ _ _ _ _ _ | show ∃ x', _ < _ ∧ _) | (show AW _ _ (.ret) _ _ _; refine Aw ?_; try dsimp only [Ax, Aa, A2, Af])
    | (show DL _ _ _ _ _ _ _; refine Bx Y Y (fun K kt kf => Am hG Y Y Y Y Y kt kf) (fun h => ?_) (fun h => ?_))
    | (show DL _ _ _ _ _ _ _; refine By Y Y Y ?_) | (show DL _ _ _ _ _ _ _; refine Be ?_; first | show AW _ _ _ _ _ _ | show ∃ x', _ < _ ∧ _) | (show AW _ _ (.region _ _ true) _ _ _; refine A3 mix (by kernel_rfl) ?_; intro O1) | fail)
        try dsimp (config := { zetaDelta := true }) only [Ax, Aa, A2]
        refine Bu (Bm rfl Bl) (.eq ?_) rfl
        rw [← hR, decide_eq_false]
        · rfl
        · intro hnd
          have h3 := List.pairwise_iff_getElem.1 hnd k i (by rw [List.length_map]; omega) (by rw [List.length_map]; exact hil) hki
          simp [List.getD, hil, show k < l.length by omega] at he h3
          exact h3 (by omega)
      · repeat' (first
    | ((first | (show AL _ _ _ _ _ _ _ _; refine Ag Y ?_) | (show DL _ _ _ _ _ _ _; refine' A8 Y Y (fun K kk => ?_) ?_; try (show Go.Ts.T; rotate_left))); (first
      | refine Aq hG Y Y ?_
      | refine A5 hG Y Y ?_
      | (show AOp _ _ ⟨_, .call ⟨.builtin .len, _, _⟩, _, _, _, _⟩ _ _ _; first | refine Bh hG Y Y Y Y ?_ | refine Bq hG Y Y Y Y Y ?_)
      | (show AOp _ _ ⟨_, .binOp .add _ _ _ _, _, _, _, _⟩ _ _ _; first | refine Ac hG Y Y Y Y Y (by omega) ?_ | refine Ac (m := 1) hG Y Y Y Y Y (by omega) ?_ | refine Ab hG Y Y Y Y Y (by omega) ?_)
      | (show AOp _ _ ⟨_, .binOp _ _ _ _ _, _, _, _, _⟩ _ _ _; first | refine At hG Y Y Y Y Y (by omega) ?_ | refine Au hG Y Y Y Y Y (by omega) ?_ | ((fail_if_success have := kk); refine Am hG Y Y Y Y Y (fun h => ?_) (fun h => ?_)))
      | (show AOp _ _ ⟨_, .load _ _, _, _, _, _⟩ _ _ _; first | refine Ak (α := UInt16) 0 hG Y Y Y Y (by omega) Y ?_ | refine Ak (α := UInt16) 1 hG Y Y Y Y (by omega) Y ?_ | refine Ay hG Y Y Y ?_ | refine Bg 0 hG Y Y Y Y ?_)
      | (show AOp _ _ ⟨_, .indexAddr _ _ _, _, _, _, _⟩ _ _ _; first | refine A1 hG Y Y Y Y Y Y Y (by omega) ?_ | refine A0 hG Y Y Y Y Y Y Y (by omega) ?_ | refine Az hG Y Y Y Y Y Y Y (by omega) ?_ | refine A9 hG Y Y ?_)
      | refine r_q hG Y Y Y ?_); try exact kk)
    | (show AL _ _ _ _ _ _ _ _; first | refine Bk Y Y Y ?_ | (refine Ar ?_; first | show AW _ _ _ _ _ _ | show ∃ x', _ < _ ∧ _)) | (show AW _ _ (.seq _ _) _ _ _; refine Ai ?_; intro Q1) | (show AW _ _ (.region _ _ false) _ _ _; refine Ad ?_; intro O1) | (show AW _ _ (.cond _ _ _) _ _ _; first | refine Ao Y ?_ | refine Ap Y ?_ | refine Ba Y (fun h => ?_) (fun h => ?_)) | (show AW _ _ (.skip) _ _ _; refine Aj ?_; first | show AW _ _ _ _ _ _ | show ∃ x', _ < _ ∧ _) | (show AW _ _ (.block _ _) _ _ _; refine Ae ?_; intro Q1) | (show AW _ _ (.exit _) _ _ _; refine Al ?_; first | show AW _ _ _ _ _ _ | show ∃ x', _ < _ ∧ _) | (show AW _ _ (.ret) _ _ _; refine Aw ?_; try dsimp only [Ax, Aa, A2, Af])
    | (show DL _ _ _ _ _ _ _; refine Bx Y Y (fun K kt kf => Am hG Y Y Y Y Y kt kf) (fun h => ?_) (fun h => ?_))
    | (show DL _ _ _ _ _ _ _; refine By Y Y Y ?_) | (show DL _ _ _ _ _ _ _; refine Be ?_; first | show AW _ _ _ _ _ _ | show ∃ x', _ < _ ∧ _) | (show AW _ _ (.region _ _ true) _ _ _; refine A3 mix (by kernel_rfl) ?_; intro O1) | fail)
        exact ⟨⟨k + 1, by omega, fun j hj => (by
          by_cases h3 : j < k
          · exact hd j h3
          · obtain rfl : j = k := by omega
            omega)⟩, by dsimp only; omega, (by repeat (first | exact .nil _ | refine .cons rfl ?_)), .refl _⟩
    · repeat' (first
    | ((first | (show AL _ _ _ _ _ _ _ _; refine Ag Y ?_) | (show DL _ _ _ _ _ _ _; refine' A8 Y Y (fun K kk => ?_) ?_; try (show Go.Ts.T; rotate_left))); (first
      | refine Aq hG Y Y ?_
      | refine A5 hG Y Y ?_
      | (show AOp _ _ ⟨_, .call ⟨.builtin .len, _, _⟩, _, _, _, _⟩ _ _ _; first | refine Bh hG Y Y Y Y ?_ | refine Bq hG Y Y Y Y Y ?_)
      | (show AOp _ _ ⟨_, .binOp .add _ _ _ _, _, _, _, _⟩ _ _ _; first | refine Ac hG Y Y Y Y Y (by omega) ?_ | refine Ac (m := 1) hG Y Y Y Y Y (by omega) ?_ | refine Ab hG Y Y Y Y Y (by omega) ?_)
      | (show AOp _ _ ⟨_, .binOp _ _ _ _ _, _, _, _, _⟩ _ _ _; first | refine At hG Y Y Y Y Y (by omega) ?_ | refine Au hG Y Y Y Y Y (by omega) ?_ | ((fail_if_success have := kk); refine Am hG Y Y Y Y Y (fun h => ?_) (fun h => ?_)))
      | (show AOp _ _ ⟨_, .load _ _, _, _, _, _⟩ _ _ _; first | refine Ak (α := UInt16) 0 hG Y Y Y Y (by omega) Y ?_ | refine Ak (α := UInt16) 1 hG Y Y Y Y (by omega) Y ?_ | refine Ay hG Y Y Y ?_ | refine Bg 0 hG Y Y Y Y ?_)
      | (show AOp _ _ ⟨_, .indexAddr _ _ _, _, _, _, _⟩ _ _ _; first | refine A1 hG Y Y Y Y Y Y Y (by omega) ?_ | refine A0 hG Y Y Y Y Y Y Y (by omega) ?_ | refine Az hG Y Y Y Y Y Y Y (by omega) ?_ | refine A9 hG Y Y ?_)
      | refine r_q hG Y Y Y ?_); try exact kk)
    | (show AL _ _ _ _ _ _ _ _; first | refine Bk Y Y Y ?_ | (refine Ar ?_; first | show AW _ _ _ _ _ _ | show ∃ x', _ < _ ∧ _)) | (show AW _ _ (.seq _ _) _ _ _; refine Ai ?_; intro Q1) | (show AW _ _ (.region _ _ false) _ _ _; refine Ad ?_; intro O1) | (show AW _ _ (.cond _ _ _) _ _ _; first | refine Ao Y ?_ | refine Ap Y ?_ | refine Ba Y (fun h => ?_) (fun h => ?_)) | (show AW _ _ (.skip) _ _ _; refine Aj ?_; first | show AW _ _ _ _ _ _ | show ∃ x', _ < _ ∧ _) | (show AW _ _ (.block _ _) _ _ _; refine Ae ?_; intro Q1) | (show AW _ _ (.exit _) _ _ _; refine Al ?_; first | show AW _ _ _ _ _ _ | show ∃ x', _ < _ ∧ _) | (show AW _ _ (.ret) _ _ _; refine Aw ?_; try dsimp only [Ax, Aa, A2, Af])
    | (show DL _ _ _ _ _ _ _; refine Bx Y Y (fun K kt kf => Am hG Y Y Y Y Y kt kf) (fun h => ?_) (fun h => ?_))
    | (show DL _ _ _ _ _ _ _; refine By Y Y Y ?_) | (show DL _ _ _ _ _ _ _; refine Be ?_; first | show AW _ _ _ _ _ _ | show ∃ x', _ < _ ∧ _) | (show AW _ _ (.region _ _ true) _ _ _; refine A3 mix (by kernel_rfl) ?_; intro O1) | fail)
      exact ⟨⟨i + 1, by omega, nodup_snoc hil hn fun j hj => hd j (by omega)⟩, by dsimp only; omega, (by repeat (first | exact .nil _ | refine .cons rfl ?_)), .refl _⟩
  · repeat' (first
    | ((first | (show AL _ _ _ _ _ _ _ _; refine Ag Y ?_) | (show DL _ _ _ _ _ _ _; refine' A8 Y Y (fun K kk => ?_) ?_; try (show Go.Ts.T; rotate_left))); (first
      | refine Aq hG Y Y ?_
      | refine A5 hG Y Y ?_
      | (show AOp _ _ ⟨_, .call ⟨.builtin .len, _, _⟩, _, _, _, _⟩ _ _ _; first | refine Bh hG Y Y Y Y ?_ | refine Bq hG Y Y Y Y Y ?_)
      | (show AOp _ _ ⟨_, .binOp .add _ _ _ _, _, _, _, _⟩ _ _ _; first | refine Ac hG Y Y Y Y Y (by omega) ?_ | refine Ac (m := 1) hG Y Y Y Y Y (by omega) ?_ | refine Ab hG Y Y Y Y Y (by omega) ?_)
      | (show AOp _ _ ⟨_, .binOp _ _ _ _ _, _, _, _, _⟩ _ _ _; first | refine At hG Y Y Y Y Y (by omega) ?_ | refine Au hG Y Y Y Y Y (by omega) ?_ | ((fail_if_success have := kk); refine Am hG Y Y Y Y Y (fun h => ?_) (fun h => ?_)))
      | (show AOp _ _ ⟨_, .load _ _, _, _, _, _⟩ _ _ _; first | refine Ak (α := UInt16) 0 hG Y Y Y Y (by omega) Y ?_ | refine Ak (α := UInt16) 1 hG Y Y Y Y (by omega) Y ?_ | refine Ay hG Y Y Y ?_ | refine Bg 0 hG Y Y Y Y ?_)
      | (show AOp _ _ ⟨_, .indexAddr _ _ _, _, _, _, _⟩ _ _ _; first | refine A1 hG Y Y Y Y Y Y Y (by omega) ?_ | refine A0 hG Y Y Y Y Y Y Y (by omega) ?_ | refine Az hG Y Y Y Y Y Y Y (by omega) ?_ | refine A9 hG Y Y ?_)
      | refine r_q hG Y Y Y ?_); try exact kk)
    | (show AL _ _ _ _ _ _ _ _; first | refine Bk Y Y Y ?_ | (refine Ar ?_; first | show AW _ _ _ _ _ _ | show ∃ x', _ < _ ∧ _)) | (show AW _ _ (.seq _ _) _ _ _; refine Ai ?_; intro Q1) | (show AW _ _ (.region _ _ false) _ _ _; refine Ad ?_; intro O1) | (show AW _ _ (.cond _ _ _) _ _ _; first | refine Ao Y ?_ | refine Ap Y ?_ | refine Ba Y (fun h => ?_) (fun h => ?_)) | (show AW _ _ (.skip) _ _ _; refine Aj ?_; first | show AW _ _ _ _ _ _ | show ∃ x', _ < _ ∧ _) | (show AW _ _ (.block _ _) _ _ _; refine Ae ?_; intro Q1) | (show AW _ _ (.exit _) _ _ _; refine Al ?_; first | show AW _ _ _ _ _ _ | show ∃ x', _ < _ ∧ _) | (show AW _ _ (.ret) _ _ _; refine Aw ?_; try dsimp only [Ax, Aa, A2, Af])
    | (show DL _ _ _ _ _ _ _; refine Bx Y Y (fun K kt kf => Am hG Y Y Y Y Y kt kf) (fun h => ?_) (fun h => ?_))
    | (show DL _ _ _ _ _ _ _; refine By Y Y Y ?_) | (show DL _ _ _ _ _ _ _; refine Be ?_; first | show AW _ _ _ _ _ _ | show ∃ x', _ < _ ∧ _) | (show AW _ _ (.region _ _ true) _ _ _; refine A3 mix (by kernel_rfl) ?_; intro O1) | fail)
    refine Bu (Bm rfl Bl) (.eq ?_) rfl
    rw [← hR, decide_eq_true (by rwa [List.take_of_length_le (by omega)] at hn)]; rfl
def pthGo : Nat → Nat → List Nat → List Nat
  | 0, id, l => if id = 1 ∧ l.length ≤ 6 then 1 :: l else []
  | f + 1, id, l => if 1 < id then (if id % 64 = 0 then [] else pthGo f (id / 64) (id :: l)) else if id = 1 ∧ l.length ≤ 6 then 1 :: l else []
theorem nm_drop : ∀ {k j i : Nat} {l : List Nat}, nm j i = some l → l.length ≤ k → nm k i = some l
  | k, 0, i, l, h, _ => by
    rw [nm] at h; split at h
    · rename_i h1; subst h1; rw [nm_one]; exact h
    · cases h
  | 0, j + 1, i, l, h, hl => by
    rw [nm] at h; split at h
    · rename_i h1; subst h1; rw [nm_one]; exact h
    · split at h
      · cases h2 : nm j (i / 64) with
        | none => rw [h2] at h; cases h
        | some l' => rw [h2] at h; simp at h; subst h; simp at hl
      · cases h
  | k + 1, j + 1, i, l, h, hl => by
    rw [nm] at h; split at h
    · rename_i h1; subst h1; rw [nm_one]; exact h
    · rename_i h1
      split at h
      · rename_i h2
        rw [nm, if_neg h1, if_pos h2]
        cases h3 : nm j (i / 64) with
        | none => rw [h3] at h; cases h
        | some l' =>
          rw [h3] at h; simp at h; subst h
          rw [nm_drop h3 (by simpa using hl)]; rfl
      · cases h
theorem pthGo_nm : ∀ (f id : Nat) (l : List Nat), pthGo f id l = match nm f id with
    | some ns => if l.length + ns.length ≤ 6 then pathF ns ++ l else []
    | none => []
  | 0, id, l => by
    rw [pthGo, nm]
    by_cases h : id = 1
    · rw [if_pos h]; simp [h, pathF]
    · rw [if_neg h, if_neg (by simp [h])]
  | f + 1, id, l => by
    rw [pthGo, nm]
    by_cases h1 : id = 1
    · subst h1; rw [if_neg (by omega), if_pos rfl]; simp [pathF]
    · rw [if_neg h1]
      by_cases h2 : 1 < id
      · rw [if_pos h2]
        by_cases h3 : id % 64 = 0
        · rw [if_pos h3, if_neg (by omega)]
        · rw [if_neg h3, if_pos ⟨h2, by omega⟩, pthGo_nm f]
          cases h4 : nm f (id / 64) with
          | none => rfl
          | some ns =>
            have h5 := (nm_path f _ _ h4).1
            simp only [Option.map_some, List.length_cons, pathF, h5]
            rw [show id / 64 * 64 + id % 64 = id by omega, List.append_assoc, List.singleton_append]
            by_cases h6 : l.length + (ns.length + 1) ≤ 6
            · rw [if_pos h6, if_pos (by omega)]
            · rw [if_neg h6, if_neg (by omega)]
      · rw [if_neg h2, if_neg (by omega), if_neg (by omega)]
theorem pthGo_path (id : Nat) : pthGo 20 id [] = B8 id := by
  rw [pthGo_nm, B8]
  cases h : nm 6 id with
  | some ns =>
    have h2 := (nm_path 6 id ns h).2.1
    rw [nm_drop h (show ns.length ≤ 20 by omega)]
    simp; omega
  | none =>
    cases h2 : nm 20 id with
    | none => rfl
    | some ns =>
      dsimp only
      rw [if_neg]; rfl
      intro h3
      rw [nm_drop h2 (show ns.length ≤ 6 by simpa using h3)] at h; cases h
theorem u64_div {id : Nat} (h : id < 18446744073709551616) : IntKind.u64.wrap (((id : Nat) : Int).tdiv 64) = ((id / 64 : Nat) : Int) := by
  rw [show ((id : Nat) : Int).tdiv 64 = ((id / 64 : Nat) : Int) by rw [show (64 : Int) = ((64 : Nat) : Int) from rfl]; simp]
  exact u64_in (by omega) (by omega)
structure PthX (R : List Nat) where
  n : Nat
  id : Nat
  l : List Nat
  hn : n ≤ 20
  hid : id < 18446744073709551616
  hl : l.length = n
  e : pthGo (20 - n) id l = R
set_option maxHeartbeats 1000000 in
theorem ref_Path {id : Nat} (hid : id < 18446744073709551616) : Ts.Pure Try.prog 26 [mT id] (.sl 1 .no ((B8 id).map mT)) := by
  rw [← pthGo_path]
  obtain ⟨R, hR⟩ : ∃ R, pthGo 20 id [] = R := ⟨_, rfl⟩
  rw [hR]
  intro off
  refine Br (N := 32) (rs := [.tmp 2]) hG Try.func26 rfl rfl rfl rfl rfl ?_
  repeat' (first
    | ((show AL _ _ _ _ _ _ _ _; refine Ag Y ?_); (first
      | refine Aq hG Y Y ?_
      | refine A5 hG Y Y ?_
      | (show AOp _ _ ⟨_, .call ⟨.builtin .len, _, _⟩, _, _, _, _⟩ _ _ _; first | refine Bh hG Y Y Y Y ?_ | refine Bq hG Y Y Y Y Y ?_)
      | (show AOp _ _ ⟨_, .binOp .add _ _ _ _, _, _, _, _⟩ _ _ _; first | refine Ac hG Y Y Y Y Y (by omega) ?_ | refine Ac (m := 1) hG Y Y Y Y Y (by omega) ?_ | refine Ab hG Y Y Y Y Y (by omega) ?_)
      | (show AOp _ _ ⟨_, .binOp .quo _ _ _ _, _, _, _, _⟩ _ _ _; first | refine Bf (m := 2) hG Y Y Y Y (by omega) ?_ | refine Bf (m := 4) hG Y Y Y Y (by omega) ?_ | refine Bf (m := 8) hG Y Y Y Y (by omega) ?_)
      | (show AOp _ _ ⟨_, .binOp .rem _ _ _ _, _, _, _, _⟩ _ _ _; first | refine r_rem hG Y Y Y Y (by omega) ?_ | refine r_trem hG Y Y Y Y (by omega) ?_)
      | (show AOp _ _ ⟨_, .binOp _ _ _ _ _, _, _, _, _⟩ _ _ _; first | refine At hG Y Y Y Y Y (by omega) ?_ | refine Au hG Y Y Y Y Y (by omega) ?_ | (refine Am hG Y Y Y Y Y (fun h => ?_) (fun h => ?_)) | refine Bw hG Y Y Y ?_)
      | refine A6 hG Y Y Y ?_
      | (show AOp _ _ ⟨_, .buildSlice _ _ _, _, _, _, _⟩ _ _ _; first | refine r_mk (sz := 1) hG Y Y Y Y Y Y Y ?_)
      | (show AOp _ _ ⟨_, .call ⟨.builtin .append, _, _⟩, _, _, _, _⟩ _ _ _; first | refine Bo (sz := 1) (xs := []) hG Y Y Y Y Y Y Y ⟨_, Y⟩ Y Y Y Y Y Y Y (by first | omega | (simp; omega)) (fun k => ?_) | refine Bp 0 hG Y Y Y Y Y Y Y ⟨_, Y⟩ Y Y Y Y Y (by first | omega | (simp only [List.length_append, List.length_cons, List.length_nil]; omega)) (fun k => ?_) | fail)
      | refine r_q hG Y Y Y ?_))
    | (show AL _ _ _ _ _ _ _ _; first | refine Bk Y Y Y ?_ | (refine Ar ?_; first | show AW _ _ _ _ _ _ | show ∃ x', _ < _ ∧ _)) | (show AW _ _ (.seq _ _) _ _ _; refine Ai ?_; intro Q1) | (show AW _ _ (.region _ _ false) _ _ _; refine Ad ?_; intro O1) | (show AW _ _ (.cond _ _ _) _ _ _; first | refine Ao Y ?_ | refine Ap Y ?_ | refine Ba Y (fun h => ?_) (fun h => ?_)) | (show AW _ _ (.skip) _ _ _; refine Aj ?_; first | show AW _ _ _ _ _ _ | show ∃ x', _ < _ ∧ _) | (show AW _ _ (.block _ _) _ _ _; refine Ae ?_; intro Q1) | (show AW _ _ (.exit _) _ _ _; refine Al ?_; first | show AW _ _ _ _ _ _ | show ∃ x', _ < _ ∧ _) | (show AW _ _ (.ret) _ _ _; refine Aw ?_; try dsimp only [Ax, Aa, A2, Af]) | fail)
  refine Ch (X := PthX R) (fun x => [(0, mT x.id), (3, .sl 1 .no (x.l.map mT)), (4, .int .i64 (x.n : Int))]) (fun x => ⟨[], [], off, none⟩) (fun x => 20 - x.n) ⟨0, id, [], by omega, hid, rfl, hR⟩ (.cons rfl (.consW rfl (.nil 1) (.cons rfl (.nil _)))) (.refl _) ?_
  clear hR hid id
  rintro ⟨n, id, l, hn, hid, hl, e⟩
  dsimp only at e ⊢
  by_cases hn2 : n < 20
  · rw [show 20 - n = (20 - (n + 1)) + 1 by omega, pthGo] at e
    by_cases h1 : 1 < id
    · rw [if_pos h1] at e
      by_cases h2 : id % 64 = 0
      · rw [if_pos h2] at e
        subst e
        repeat' (first
    | ((show AL _ _ _ _ _ _ _ _; refine Ag Y ?_); (first
      | refine Aq hG Y Y ?_
      | refine A5 hG Y Y ?_
      | (show AOp _ _ ⟨_, .call ⟨.builtin .len, _, _⟩, _, _, _, _⟩ _ _ _; first | refine Bh hG Y Y Y Y ?_ | refine Bq hG Y Y Y Y Y ?_)
      | (show AOp _ _ ⟨_, .binOp .add _ _ _ _, _, _, _, _⟩ _ _ _; first | refine Ac hG Y Y Y Y Y (by omega) ?_ | refine Ac (m := 1) hG Y Y Y Y Y (by omega) ?_ | refine Ab hG Y Y Y Y Y (by omega) ?_)
      | (show AOp _ _ ⟨_, .binOp .quo _ _ _ _, _, _, _, _⟩ _ _ _; first | refine Bf (m := 2) hG Y Y Y Y (by omega) ?_ | refine Bf (m := 4) hG Y Y Y Y (by omega) ?_ | refine Bf (m := 8) hG Y Y Y Y (by omega) ?_)
      | (show AOp _ _ ⟨_, .binOp .rem _ _ _ _, _, _, _, _⟩ _ _ _; first | refine r_rem hG Y Y Y Y (by omega) ?_ | refine r_trem hG Y Y Y Y (by omega) ?_)
      | (show AOp _ _ ⟨_, .binOp _ _ _ _ _, _, _, _, _⟩ _ _ _; first | refine At hG Y Y Y Y Y (by omega) ?_ | refine Au hG Y Y Y Y Y (by omega) ?_ | (refine Am hG Y Y Y Y Y (fun h => ?_) (fun h => ?_)) | refine Bw hG Y Y Y ?_)
      | refine A6 hG Y Y Y ?_
      | (show AOp _ _ ⟨_, .buildSlice _ _ _, _, _, _, _⟩ _ _ _; first | refine r_mk (sz := 1) hG Y Y Y Y Y Y Y ?_)
      | (show AOp _ _ ⟨_, .call ⟨.builtin .append, _, _⟩, _, _, _, _⟩ _ _ _; first | refine Bo (sz := 1) (xs := []) hG Y Y Y Y Y Y Y ⟨_, Y⟩ Y Y Y Y Y Y Y (by first | omega | (simp; omega)) (fun k => ?_) | refine Bp 0 hG Y Y Y Y Y Y Y ⟨_, Y⟩ Y Y Y Y Y (by first | omega | (simp only [List.length_append, List.length_cons, List.length_nil]; omega)) (fun k => ?_) | fail)
      | refine r_q hG Y Y Y ?_))
    | (show AL _ _ _ _ _ _ _ _; first | refine Bk Y Y Y ?_ | (refine Ar ?_; first | show AW _ _ _ _ _ _ | show ∃ x', _ < _ ∧ _)) | (show AW _ _ (.seq _ _) _ _ _; refine Ai ?_; intro Q1) | (show AW _ _ (.region _ _ false) _ _ _; refine Ad ?_; intro O1) | (show AW _ _ (.cond _ _ _) _ _ _; first | refine Ao Y ?_ | refine Ap Y ?_ | refine Ba Y (fun h => ?_) (fun h => ?_)) | (show AW _ _ (.skip) _ _ _; refine Aj ?_; first | show AW _ _ _ _ _ _ | show ∃ x', _ < _ ∧ _) | (show AW _ _ (.block _ _) _ _ _; refine Ae ?_; intro Q1) | (show AW _ _ (.exit _) _ _ _; refine Al ?_; first | show AW _ _ _ _ _ _ | show ∃ x', _ < _ ∧ _) | (show AW _ _ (.ret) _ _ _; refine Aw ?_; try dsimp only [Ax, Aa, A2, Af]) | fail)
        try dsimp (config := { zetaDelta := true }) only [Ax, Aa, A2]
        exact Bu (Bm rfl Bl) (.nil 1) rfl
      · rw [if_neg h2] at e
        repeat' (first
    | ((show AL _ _ _ _ _ _ _ _; refine Ag Y ?_); (first
      | refine Aq hG Y Y ?_
      | refine A5 hG Y Y ?_
      | (show AOp _ _ ⟨_, .call ⟨.builtin .len, _, _⟩, _, _, _, _⟩ _ _ _; first | refine Bh hG Y Y Y Y ?_ | refine Bq hG Y Y Y Y Y ?_)
      | (show AOp _ _ ⟨_, .binOp .add _ _ _ _, _, _, _, _⟩ _ _ _; first | refine Ac hG Y Y Y Y Y (by omega) ?_ | refine Ac (m := 1) hG Y Y Y Y Y (by omega) ?_ | refine Ab hG Y Y Y Y Y (by omega) ?_)
      | (show AOp _ _ ⟨_, .binOp .quo _ _ _ _, _, _, _, _⟩ _ _ _; first | refine Bf (m := 2) hG Y Y Y Y (by omega) ?_ | refine Bf (m := 4) hG Y Y Y Y (by omega) ?_ | refine Bf (m := 8) hG Y Y Y Y (by omega) ?_)
      | (show AOp _ _ ⟨_, .binOp .rem _ _ _ _, _, _, _, _⟩ _ _ _; first | refine r_rem hG Y Y Y Y (by omega) ?_ | refine r_trem hG Y Y Y Y (by omega) ?_)
      | (show AOp _ _ ⟨_, .binOp _ _ _ _ _, _, _, _, _⟩ _ _ _; first | refine At hG Y Y Y Y Y (by omega) ?_ | refine Au hG Y Y Y Y Y (by omega) ?_ | (refine Am hG Y Y Y Y Y (fun h => ?_) (fun h => ?_)) | refine Bw hG Y Y Y ?_)
      | refine A6 hG Y Y Y ?_
      | (show AOp _ _ ⟨_, .buildSlice _ _ _, _, _, _, _⟩ _ _ _; first | refine r_mk (sz := 1) hG Y Y Y Y Y Y Y ?_)
      | (show AOp _ _ ⟨_, .call ⟨.builtin .append, _, _⟩, _, _, _, _⟩ _ _ _; fail)
      | refine r_q hG Y Y Y ?_))
    | (show AL _ _ _ _ _ _ _ _; first | refine Bk Y Y Y ?_ | (refine Ar ?_; first | show AW _ _ _ _ _ _ | show ∃ x', _ < _ ∧ _)) | (show AW _ _ (.seq _ _) _ _ _; refine Ai ?_; intro Q1) | (show AW _ _ (.region _ _ false) _ _ _; refine Ad ?_; intro O1) | (show AW _ _ (.cond _ _ _) _ _ _; first | refine Ao Y ?_ | refine Ap Y ?_ | refine Ba Y (fun h => ?_) (fun h => ?_)) | (show AW _ _ (.skip) _ _ _; refine Aj ?_; first | show AW _ _ _ _ _ _ | show ∃ x', _ < _ ∧ _) | (show AW _ _ (.block _ _) _ _ _; refine Ae ?_; intro Q1) | (show AW _ _ (.exit _) _ _ _; refine Al ?_; first | show AW _ _ _ _ _ _ | show ∃ x', _ < _ ∧ _) | (show AW _ _ (.ret) _ _ _; refine Aw ?_; try dsimp only [Ax, Aa, A2, Af]) | fail)
        refine Ag rfl (Bo (f := mT) (sz := 1) (xs := [id]) (ys := l) hG rfl rfl rfl rfl rfl rfl rfl ⟨_, rfl⟩ rfl rfl rfl rfl rfl rfl rfl (by simp; omega) (fun k => ?_))
        repeat' (first
    | ((show AL _ _ _ _ _ _ _ _; refine Ag Y ?_); (first
      | refine Aq hG Y Y ?_
      | refine A5 hG Y Y ?_
      | (show AOp _ _ ⟨_, .call ⟨.builtin .len, _, _⟩, _, _, _, _⟩ _ _ _; first | refine Bh hG Y Y Y Y ?_ | refine Bq hG Y Y Y Y Y ?_)
      | (show AOp _ _ ⟨_, .binOp .add _ _ _ _, _, _, _, _⟩ _ _ _; first | refine Ac hG Y Y Y Y Y (by omega) ?_ | refine Ac (m := 1) hG Y Y Y Y Y (by omega) ?_ | refine Ab hG Y Y Y Y Y (by omega) ?_)
      | (show AOp _ _ ⟨_, .binOp .quo _ _ _ _, _, _, _, _⟩ _ _ _; first | refine Bf (m := 2) hG Y Y Y Y (by omega) ?_ | refine Bf (m := 4) hG Y Y Y Y (by omega) ?_ | refine Bf (m := 8) hG Y Y Y Y (by omega) ?_)
      | (show AOp _ _ ⟨_, .binOp .rem _ _ _ _, _, _, _, _⟩ _ _ _; first | refine r_rem hG Y Y Y Y (by omega) ?_ | refine r_trem hG Y Y Y Y (by omega) ?_)
      | (show AOp _ _ ⟨_, .binOp _ _ _ _ _, _, _, _, _⟩ _ _ _; first | refine At hG Y Y Y Y Y (by omega) ?_ | refine Au hG Y Y Y Y Y (by omega) ?_ | (refine Am hG Y Y Y Y Y (fun h => ?_) (fun h => ?_)) | refine Bw hG Y Y Y ?_)
      | refine A6 hG Y Y Y ?_
      | (show AOp _ _ ⟨_, .buildSlice _ _ _, _, _, _, _⟩ _ _ _; first | refine r_mk (sz := 1) hG Y Y Y Y Y Y Y ?_)
      | (show AOp _ _ ⟨_, .call ⟨.builtin .append, _, _⟩, _, _, _, _⟩ _ _ _; first | refine Bo (sz := 1) (xs := []) hG Y Y Y Y Y Y Y ⟨_, Y⟩ Y Y Y Y Y Y Y (by first | omega | (simp; omega)) (fun k => ?_) | refine Bp 0 hG Y Y Y Y Y Y Y ⟨_, Y⟩ Y Y Y Y Y (by first | omega | (simp only [List.length_append, List.length_cons, List.length_nil]; omega)) (fun k => ?_) | fail)
      | refine r_q hG Y Y Y ?_))
    | (show AL _ _ _ _ _ _ _ _; first | refine Bk Y Y Y ?_ | (refine Ar ?_; first | show AW _ _ _ _ _ _ | show ∃ x', _ < _ ∧ _)) | (show AW _ _ (.seq _ _) _ _ _; refine Ai ?_; intro Q1) | (show AW _ _ (.region _ _ false) _ _ _; refine Ad ?_; intro O1) | (show AW _ _ (.cond _ _ _) _ _ _; first | refine Ao Y ?_ | refine Ap Y ?_ | refine Ba Y (fun h => ?_) (fun h => ?_)) | (show AW _ _ (.skip) _ _ _; refine Aj ?_; first | show AW _ _ _ _ _ _ | show ∃ x', _ < _ ∧ _) | (show AW _ _ (.block _ _) _ _ _; refine Ae ?_; intro Q1) | (show AW _ _ (.exit _) _ _ _; refine Al ?_; first | show AW _ _ _ _ _ _ | show ∃ x', _ < _ ∧ _) | (show AW _ _ (.ret) _ _ _; refine Aw ?_; try dsimp only [Ax, Aa, A2, Af]) | fail)
        exact ⟨⟨n + 1, id / 64, id :: l, by omega, by omega, by simp [hl], e⟩, by dsimp only; omega, .consW rfl (.int (u64_div hid)) (.consW rfl (.own _ _ _) (.cons rfl (.nil _))), keep_step (L' := []) (R' := []) (List.nil_sublist _) (List.nil_sublist _)⟩
    · rw [if_neg h1] at e
      by_cases h2 : id = 1
      · subst h2
        by_cases h3 : l.length ≤ 6
        · rw [if_pos ⟨rfl, h3⟩] at e
          subst e
          repeat' (first
    | ((show AL _ _ _ _ _ _ _ _; refine Ag Y ?_); (first
      | refine Aq hG Y Y ?_
      | refine A5 hG Y Y ?_
      | (show AOp _ _ ⟨_, .call ⟨.builtin .len, _, _⟩, _, _, _, _⟩ _ _ _; first | refine Bh hG Y Y Y Y ?_ | refine Bq hG Y Y Y Y Y ?_)
      | (show AOp _ _ ⟨_, .binOp .add _ _ _ _, _, _, _, _⟩ _ _ _; first | refine Ac hG Y Y Y Y Y (by omega) ?_ | refine Ac (m := 1) hG Y Y Y Y Y (by omega) ?_ | refine Ab hG Y Y Y Y Y (by omega) ?_)
      | (show AOp _ _ ⟨_, .binOp .quo _ _ _ _, _, _, _, _⟩ _ _ _; first | refine Bf (m := 2) hG Y Y Y Y (by omega) ?_ | refine Bf (m := 4) hG Y Y Y Y (by omega) ?_ | refine Bf (m := 8) hG Y Y Y Y (by omega) ?_)
      | (show AOp _ _ ⟨_, .binOp .rem _ _ _ _, _, _, _, _⟩ _ _ _; first | refine r_rem hG Y Y Y Y (by omega) ?_ | refine r_trem hG Y Y Y Y (by omega) ?_)
      | (show AOp _ _ ⟨_, .binOp _ _ _ _ _, _, _, _, _⟩ _ _ _; first | refine At hG Y Y Y Y Y (by omega) ?_ | refine Au hG Y Y Y Y Y (by omega) ?_ | (refine Am hG Y Y Y Y Y (fun h => ?_) (fun h => ?_)) | refine Bw hG Y Y Y ?_)
      | refine A6 hG Y Y Y ?_
      | (show AOp _ _ ⟨_, .buildSlice _ _ _, _, _, _, _⟩ _ _ _; first | refine r_mk (sz := 1) hG Y Y Y Y Y Y Y ?_)
      | (show AOp _ _ ⟨_, .call ⟨.builtin .append, _, _⟩, _, _, _, _⟩ _ _ _; fail)
      | refine r_q hG Y Y Y ?_))
    | (show AL _ _ _ _ _ _ _ _; first | refine Bk Y Y Y ?_ | (refine Ar ?_; first | show AW _ _ _ _ _ _ | show ∃ x', _ < _ ∧ _)) | (show AW _ _ (.seq _ _) _ _ _; refine Ai ?_; intro Q1) | (show AW _ _ (.region _ _ false) _ _ _; refine Ad ?_; intro O1) | (show AW _ _ (.cond _ _ _) _ _ _; first | refine Ao Y ?_ | refine Ap Y ?_ | refine Ba Y (fun h => ?_) (fun h => ?_)) | (show AW _ _ (.skip) _ _ _; refine Aj ?_; first | show AW _ _ _ _ _ _ | show ∃ x', _ < _ ∧ _) | (show AW _ _ (.block _ _) _ _ _; refine Ae ?_; intro Q1) | (show AW _ _ (.exit _) _ _ _; refine Al ?_; first | show AW _ _ _ _ _ _ | show ∃ x', _ < _ ∧ _) | (show AW _ _ (.ret) _ _ _; refine Aw ?_; try dsimp only [Ax, Aa, A2, Af]) | fail)
          refine Ag rfl (Bo (f := mT) (sz := 1) (xs := [1]) (ys := l) hG rfl rfl rfl rfl rfl rfl rfl ⟨_, rfl⟩ rfl rfl rfl rfl rfl rfl rfl (by simp; omega) (fun k => ?_))
          repeat' (first
    | ((show AL _ _ _ _ _ _ _ _; refine Ag Y ?_); (first
      | refine Aq hG Y Y ?_
      | refine A5 hG Y Y ?_
      | (show AOp _ _ ⟨_, .call ⟨.builtin .len, _, _⟩, _, _, _, _⟩ _ _ _; first | refine Bh hG Y Y Y Y ?_ | refine Bq hG Y Y Y Y Y ?_)
      | (show AOp _ _ ⟨_, .binOp .add _ _ _ _, _, _, _, _⟩ _ _ _; first | refine Ac hG Y Y Y Y Y (by omega) ?_ | refine Ac (m := 1) hG Y Y Y Y Y (by omega) ?_ | refine Ab hG Y Y Y Y Y (by omega) ?_)
      | (show AOp _ _ ⟨_, .binOp .quo _ _ _ _, _, _, _, _⟩ _ _ _; first | refine Bf (m := 2) hG Y Y Y Y (by omega) ?_ | refine Bf (m := 4) hG Y Y Y Y (by omega) ?_ | refine Bf (m := 8) hG Y Y Y Y (by omega) ?_)
      | (show AOp _ _ ⟨_, .binOp .rem _ _ _ _, _, _, _, _⟩ _ _ _; first | refine r_rem hG Y Y Y Y (by omega) ?_ | refine r_trem hG Y Y Y Y (by omega) ?_)
      | (show AOp _ _ ⟨_, .binOp _ _ _ _ _, _, _, _, _⟩ _ _ _; first | refine At hG Y Y Y Y Y (by omega) ?_ | refine Au hG Y Y Y Y Y (by omega) ?_ | (refine Am hG Y Y Y Y Y (fun h => ?_) (fun h => ?_)) | refine Bw hG Y Y Y ?_)
      | refine A6 hG Y Y Y ?_
      | (show AOp _ _ ⟨_, .buildSlice _ _ _, _, _, _, _⟩ _ _ _; first | refine r_mk (sz := 1) hG Y Y Y Y Y Y Y ?_)
      | (show AOp _ _ ⟨_, .call ⟨.builtin .append, _, _⟩, _, _, _, _⟩ _ _ _; first | refine Bo (sz := 1) (xs := []) hG Y Y Y Y Y Y Y ⟨_, Y⟩ Y Y Y Y Y Y Y (by first | omega | (simp; omega)) (fun k => ?_) | refine Bp 0 hG Y Y Y Y Y Y Y ⟨_, Y⟩ Y Y Y Y Y (by first | omega | (simp only [List.length_append, List.length_cons, List.length_nil]; omega)) (fun k => ?_) | fail)
      | refine r_q hG Y Y Y ?_))
    | (show AL _ _ _ _ _ _ _ _; first | refine Bk Y Y Y ?_ | (refine Ar ?_; first | show AW _ _ _ _ _ _ | show ∃ x', _ < _ ∧ _)) | (show AW _ _ (.seq _ _) _ _ _; refine Ai ?_; intro Q1) | (show AW _ _ (.region _ _ false) _ _ _; refine Ad ?_; intro O1) | (show AW _ _ (.cond _ _ _) _ _ _; first | refine Ao Y ?_ | refine Ap Y ?_ | refine Ba Y (fun h => ?_) (fun h => ?_)) | (show AW _ _ (.skip) _ _ _; refine Aj ?_; first | show AW _ _ _ _ _ _ | show ∃ x', _ < _ ∧ _) | (show AW _ _ (.block _ _) _ _ _; refine Ae ?_; intro Q1) | (show AW _ _ (.exit _) _ _ _; refine Al ?_; first | show AW _ _ _ _ _ _ | show ∃ x', _ < _ ∧ _) | (show AW _ _ (.ret) _ _ _; refine Aw ?_; try dsimp only [Ax, Aa, A2, Af]) | fail)
          exact Bu (Bm rfl Bl) (.own _ _ _) rfl
        · rw [if_neg (by omega)] at e
          subst e
          repeat' (first
    | ((show AL _ _ _ _ _ _ _ _; refine Ag Y ?_); (first
      | refine Aq hG Y Y ?_
      | refine A5 hG Y Y ?_
      | (show AOp _ _ ⟨_, .call ⟨.builtin .len, _, _⟩, _, _, _, _⟩ _ _ _; first | refine Bh hG Y Y Y Y ?_ | refine Bq hG Y Y Y Y Y ?_)
      | (show AOp _ _ ⟨_, .binOp .add _ _ _ _, _, _, _, _⟩ _ _ _; first | refine Ac hG Y Y Y Y Y (by omega) ?_ | refine Ac (m := 1) hG Y Y Y Y Y (by omega) ?_ | refine Ab hG Y Y Y Y Y (by omega) ?_)
      | (show AOp _ _ ⟨_, .binOp .quo _ _ _ _, _, _, _, _⟩ _ _ _; first | refine Bf (m := 2) hG Y Y Y Y (by omega) ?_ | refine Bf (m := 4) hG Y Y Y Y (by omega) ?_ | refine Bf (m := 8) hG Y Y Y Y (by omega) ?_)
      | (show AOp _ _ ⟨_, .binOp .rem _ _ _ _, _, _, _, _⟩ _ _ _; first | refine r_rem hG Y Y Y Y (by omega) ?_ | refine r_trem hG Y Y Y Y (by omega) ?_)
      | (show AOp _ _ ⟨_, .binOp _ _ _ _ _, _, _, _, _⟩ _ _ _; first | refine At hG Y Y Y Y Y (by omega) ?_ | refine Au hG Y Y Y Y Y (by omega) ?_ | (refine Am hG Y Y Y Y Y (fun h => ?_) (fun h => ?_)) | refine Bw hG Y Y Y ?_)
      | refine A6 hG Y Y Y ?_
      | (show AOp _ _ ⟨_, .buildSlice _ _ _, _, _, _, _⟩ _ _ _; first | refine r_mk (sz := 1) hG Y Y Y Y Y Y Y ?_)
      | (show AOp _ _ ⟨_, .call ⟨.builtin .append, _, _⟩, _, _, _, _⟩ _ _ _; first | refine Bo (sz := 1) (xs := []) hG Y Y Y Y Y Y Y ⟨_, Y⟩ Y Y Y Y Y Y Y (by first | omega | (simp; omega)) (fun k => ?_) | refine Bp 0 hG Y Y Y Y Y Y Y ⟨_, Y⟩ Y Y Y Y Y (by first | omega | (simp only [List.length_append, List.length_cons, List.length_nil]; omega)) (fun k => ?_) | fail)
      | refine r_q hG Y Y Y ?_))
    | (show AL _ _ _ _ _ _ _ _; first | refine Bk Y Y Y ?_ | (refine Ar ?_; first | show AW _ _ _ _ _ _ | show ∃ x', _ < _ ∧ _)) | (show AW _ _ (.seq _ _) _ _ _; refine Ai ?_; intro Q1) | (show AW _ _ (.region _ _ false) _ _ _; refine Ad ?_; intro O1) | (show AW _ _ (.cond _ _ _) _ _ _; first | refine Ao Y ?_ | refine Ap Y ?_ | refine Ba Y (fun h => ?_) (fun h => ?_)) | (show AW _ _ (.skip) _ _ _; refine Aj ?_; first | show AW _ _ _ _ _ _ | show ∃ x', _ < _ ∧ _) | (show AW _ _ (.block _ _) _ _ _; refine Ae ?_; intro Q1) | (show AW _ _ (.exit _) _ _ _; refine Al ?_; first | show AW _ _ _ _ _ _ | show ∃ x', _ < _ ∧ _) | (show AW _ _ (.ret) _ _ _; refine Aw ?_; try dsimp only [Ax, Aa, A2, Af]) | fail)
          exact Bu (Bm rfl Bl) (.nil 1) rfl
      · rw [if_neg (by omega)] at e
        subst e
        repeat' (first
    | ((show AL _ _ _ _ _ _ _ _; refine Ag Y ?_); (first
      | refine Aq hG Y Y ?_
      | refine A5 hG Y Y ?_
      | (show AOp _ _ ⟨_, .call ⟨.builtin .len, _, _⟩, _, _, _, _⟩ _ _ _; first | refine Bh hG Y Y Y Y ?_ | refine Bq hG Y Y Y Y Y ?_)
      | (show AOp _ _ ⟨_, .binOp .add _ _ _ _, _, _, _, _⟩ _ _ _; first | refine Ac hG Y Y Y Y Y (by omega) ?_ | refine Ac (m := 1) hG Y Y Y Y Y (by omega) ?_ | refine Ab hG Y Y Y Y Y (by omega) ?_)
      | (show AOp _ _ ⟨_, .binOp .quo _ _ _ _, _, _, _, _⟩ _ _ _; first | refine Bf (m := 2) hG Y Y Y Y (by omega) ?_ | refine Bf (m := 4) hG Y Y Y Y (by omega) ?_ | refine Bf (m := 8) hG Y Y Y Y (by omega) ?_)
      | (show AOp _ _ ⟨_, .binOp .rem _ _ _ _, _, _, _, _⟩ _ _ _; first | refine r_rem hG Y Y Y Y (by omega) ?_ | refine r_trem hG Y Y Y Y (by omega) ?_)
      | (show AOp _ _ ⟨_, .binOp _ _ _ _ _, _, _, _, _⟩ _ _ _; first | refine At hG Y Y Y Y Y (by omega) ?_ | refine Au hG Y Y Y Y Y (by omega) ?_ | (refine Am hG Y Y Y Y Y (fun h => ?_) (fun h => ?_)) | refine Bw hG Y Y Y ?_)
      | refine A6 hG Y Y Y ?_
      | (show AOp _ _ ⟨_, .buildSlice _ _ _, _, _, _, _⟩ _ _ _; first | refine r_mk (sz := 1) hG Y Y Y Y Y Y Y ?_)
      | (show AOp _ _ ⟨_, .call ⟨.builtin .append, _, _⟩, _, _, _, _⟩ _ _ _; first | refine Bo (sz := 1) (xs := []) hG Y Y Y Y Y Y Y ⟨_, Y⟩ Y Y Y Y Y Y Y (by first | omega | (simp; omega)) (fun k => ?_) | refine Bp 0 hG Y Y Y Y Y Y Y ⟨_, Y⟩ Y Y Y Y Y (by first | omega | (simp only [List.length_append, List.length_cons, List.length_nil]; omega)) (fun k => ?_) | fail)
      | refine r_q hG Y Y Y ?_))
    | (show AL _ _ _ _ _ _ _ _; first | refine Bk Y Y Y ?_ | (refine Ar ?_; first | show AW _ _ _ _ _ _ | show ∃ x', _ < _ ∧ _)) | (show AW _ _ (.seq _ _) _ _ _; refine Ai ?_; intro Q1) | (show AW _ _ (.region _ _ false) _ _ _; refine Ad ?_; intro O1) | (show AW _ _ (.cond _ _ _) _ _ _; first | refine Ao Y ?_ | refine Ap Y ?_ | refine Ba Y (fun h => ?_) (fun h => ?_)) | (show AW _ _ (.skip) _ _ _; refine Aj ?_; first | show AW _ _ _ _ _ _ | show ∃ x', _ < _ ∧ _) | (show AW _ _ (.block _ _) _ _ _; refine Ae ?_; intro Q1) | (show AW _ _ (.exit _) _ _ _; refine Al ?_; first | show AW _ _ _ _ _ _ | show ∃ x', _ < _ ∧ _) | (show AW _ _ (.ret) _ _ _; refine Aw ?_; try dsimp only [Ax, Aa, A2, Af]) | fail)
        exact Bu (Bm rfl Bl) (.nil 1) rfl
  · obtain rfl : n = 20 := by omega
    rw [pthGo, if_neg (by omega)] at e
    subst e
    by_cases h1 : 1 < id
    · repeat' (first
    | ((show AL _ _ _ _ _ _ _ _; refine Ag Y ?_); (first
      | refine Aq hG Y Y ?_
      | refine A5 hG Y Y ?_
      | (show AOp _ _ ⟨_, .call ⟨.builtin .len, _, _⟩, _, _, _, _⟩ _ _ _; first | refine Bh hG Y Y Y Y ?_ | refine Bq hG Y Y Y Y Y ?_)
      | (show AOp _ _ ⟨_, .binOp .add _ _ _ _, _, _, _, _⟩ _ _ _; first | refine Ac hG Y Y Y Y Y (by omega) ?_ | refine Ac (m := 1) hG Y Y Y Y Y (by omega) ?_ | refine Ab hG Y Y Y Y Y (by omega) ?_)
      | (show AOp _ _ ⟨_, .binOp .quo _ _ _ _, _, _, _, _⟩ _ _ _; first | refine Bf (m := 2) hG Y Y Y Y (by omega) ?_ | refine Bf (m := 4) hG Y Y Y Y (by omega) ?_ | refine Bf (m := 8) hG Y Y Y Y (by omega) ?_)
      | (show AOp _ _ ⟨_, .binOp .rem _ _ _ _, _, _, _, _⟩ _ _ _; first | refine r_rem hG Y Y Y Y (by omega) ?_ | refine r_trem hG Y Y Y Y (by omega) ?_)
      | (show AOp _ _ ⟨_, .binOp _ _ _ _ _, _, _, _, _⟩ _ _ _; first | refine At hG Y Y Y Y Y (by omega) ?_ | refine Au hG Y Y Y Y Y (by omega) ?_ | (refine Am hG Y Y Y Y Y (fun h => ?_) (fun h => ?_)) | refine Bw hG Y Y Y ?_)
      | refine A6 hG Y Y Y ?_
      | (show AOp _ _ ⟨_, .buildSlice _ _ _, _, _, _, _⟩ _ _ _; first | refine r_mk (sz := 1) hG Y Y Y Y Y Y Y ?_)
      | (show AOp _ _ ⟨_, .call ⟨.builtin .append, _, _⟩, _, _, _, _⟩ _ _ _; first | refine Bo (sz := 1) (xs := []) hG Y Y Y Y Y Y Y ⟨_, Y⟩ Y Y Y Y Y Y Y (by first | omega | (simp; omega)) (fun k => ?_) | refine Bp 0 hG Y Y Y Y Y Y Y ⟨_, Y⟩ Y Y Y Y Y (by first | omega | (simp only [List.length_append, List.length_cons, List.length_nil]; omega)) (fun k => ?_) | fail)
      | refine r_q hG Y Y Y ?_))
    | (show AL _ _ _ _ _ _ _ _; first | refine Bk Y Y Y ?_ | (refine Ar ?_; first | show AW _ _ _ _ _ _ | show ∃ x', _ < _ ∧ _)) | (show AW _ _ (.seq _ _) _ _ _; refine Ai ?_; intro Q1) | (show AW _ _ (.region _ _ false) _ _ _; refine Ad ?_; intro O1) | (show AW _ _ (.cond _ _ _) _ _ _; first | refine Ao Y ?_ | refine Ap Y ?_ | refine Ba Y (fun h => ?_) (fun h => ?_)) | (show AW _ _ (.skip) _ _ _; refine Aj ?_; first | show AW _ _ _ _ _ _ | show ∃ x', _ < _ ∧ _) | (show AW _ _ (.block _ _) _ _ _; refine Ae ?_; intro Q1) | (show AW _ _ (.exit _) _ _ _; refine Al ?_; first | show AW _ _ _ _ _ _ | show ∃ x', _ < _ ∧ _) | (show AW _ _ (.ret) _ _ _; refine Aw ?_; try dsimp only [Ax, Aa, A2, Af]) | fail)
      exact Bu (Bm rfl Bl) (.nil 1) rfl
    · by_cases h2 : id = 1
      · subst h2
        repeat' (first
    | ((show AL _ _ _ _ _ _ _ _; refine Ag Y ?_); (first
      | refine Aq hG Y Y ?_
      | refine A5 hG Y Y ?_
      | (show AOp _ _ ⟨_, .call ⟨.builtin .len, _, _⟩, _, _, _, _⟩ _ _ _; first | refine Bh hG Y Y Y Y ?_ | refine Bq hG Y Y Y Y Y ?_)
      | (show AOp _ _ ⟨_, .binOp .add _ _ _ _, _, _, _, _⟩ _ _ _; first | refine Ac hG Y Y Y Y Y (by omega) ?_ | refine Ac (m := 1) hG Y Y Y Y Y (by omega) ?_ | refine Ab hG Y Y Y Y Y (by omega) ?_)
      | (show AOp _ _ ⟨_, .binOp .quo _ _ _ _, _, _, _, _⟩ _ _ _; first | refine Bf (m := 2) hG Y Y Y Y (by omega) ?_ | refine Bf (m := 4) hG Y Y Y Y (by omega) ?_ | refine Bf (m := 8) hG Y Y Y Y (by omega) ?_)
      | (show AOp _ _ ⟨_, .binOp .rem _ _ _ _, _, _, _, _⟩ _ _ _; first | refine r_rem hG Y Y Y Y (by omega) ?_ | refine r_trem hG Y Y Y Y (by omega) ?_)
      | (show AOp _ _ ⟨_, .binOp _ _ _ _ _, _, _, _, _⟩ _ _ _; first | refine At hG Y Y Y Y Y (by omega) ?_ | refine Au hG Y Y Y Y Y (by omega) ?_ | (refine Am hG Y Y Y Y Y (fun h => ?_) (fun h => ?_)) | refine Bw hG Y Y Y ?_)
      | refine A6 hG Y Y Y ?_
      | (show AOp _ _ ⟨_, .buildSlice _ _ _, _, _, _, _⟩ _ _ _; first | refine r_mk (sz := 1) hG Y Y Y Y Y Y Y ?_)
      | (show AOp _ _ ⟨_, .call ⟨.builtin .append, _, _⟩, _, _, _, _⟩ _ _ _; first | refine Bo (sz := 1) (xs := []) hG Y Y Y Y Y Y Y ⟨_, Y⟩ Y Y Y Y Y Y Y (by first | omega | (simp; omega)) (fun k => ?_) | refine Bp 0 hG Y Y Y Y Y Y Y ⟨_, Y⟩ Y Y Y Y Y (by first | omega | (simp only [List.length_append, List.length_cons, List.length_nil]; omega)) (fun k => ?_) | fail)
      | refine r_q hG Y Y Y ?_))
    | (show AL _ _ _ _ _ _ _ _; first | refine Bk Y Y Y ?_ | (refine Ar ?_; first | show AW _ _ _ _ _ _ | show ∃ x', _ < _ ∧ _)) | (show AW _ _ (.seq _ _) _ _ _; refine Ai ?_; intro Q1) | (show AW _ _ (.region _ _ false) _ _ _; refine Ad ?_; intro O1) | (show AW _ _ (.cond _ _ _) _ _ _; first | refine Ao Y ?_ | refine Ap Y ?_ | refine Ba Y (fun h => ?_) (fun h => ?_)) | (show AW _ _ (.skip) _ _ _; refine Aj ?_; first | show AW _ _ _ _ _ _ | show ∃ x', _ < _ ∧ _) | (show AW _ _ (.block _ _) _ _ _; refine Ae ?_; intro Q1) | (show AW _ _ (.exit _) _ _ _; refine Al ?_; first | show AW _ _ _ _ _ _ | show ∃ x', _ < _ ∧ _) | (show AW _ _ (.ret) _ _ _; refine Aw ?_; try dsimp only [Ax, Aa, A2, Af]) | fail)
        exact Bu (Bm rfl Bl) (.nil 1) rfl
      · repeat' (first
    | ((show AL _ _ _ _ _ _ _ _; refine Ag Y ?_); (first
      | refine Aq hG Y Y ?_
      | refine A5 hG Y Y ?_
      | (show AOp _ _ ⟨_, .call ⟨.builtin .len, _, _⟩, _, _, _, _⟩ _ _ _; first | refine Bh hG Y Y Y Y ?_ | refine Bq hG Y Y Y Y Y ?_)
      | (show AOp _ _ ⟨_, .binOp .add _ _ _ _, _, _, _, _⟩ _ _ _; first | refine Ac hG Y Y Y Y Y (by omega) ?_ | refine Ac (m := 1) hG Y Y Y Y Y (by omega) ?_ | refine Ab hG Y Y Y Y Y (by omega) ?_)
      | (show AOp _ _ ⟨_, .binOp .quo _ _ _ _, _, _, _, _⟩ _ _ _; first | refine Bf (m := 2) hG Y Y Y Y (by omega) ?_ | refine Bf (m := 4) hG Y Y Y Y (by omega) ?_ | refine Bf (m := 8) hG Y Y Y Y (by omega) ?_)
      | (show AOp _ _ ⟨_, .binOp .rem _ _ _ _, _, _, _, _⟩ _ _ _; first | refine r_rem hG Y Y Y Y (by omega) ?_ | refine r_trem hG Y Y Y Y (by omega) ?_)
      | (show AOp _ _ ⟨_, .binOp _ _ _ _ _, _, _, _, _⟩ _ _ _; first | refine At hG Y Y Y Y Y (by omega) ?_ | refine Au hG Y Y Y Y Y (by omega) ?_ | (refine Am hG Y Y Y Y Y (fun h => ?_) (fun h => ?_)) | refine Bw hG Y Y Y ?_)
      | refine A6 hG Y Y Y ?_
      | (show AOp _ _ ⟨_, .buildSlice _ _ _, _, _, _, _⟩ _ _ _; first | refine r_mk (sz := 1) hG Y Y Y Y Y Y Y ?_)
      | (show AOp _ _ ⟨_, .call ⟨.builtin .append, _, _⟩, _, _, _, _⟩ _ _ _; first | refine Bo (sz := 1) (xs := []) hG Y Y Y Y Y Y Y ⟨_, Y⟩ Y Y Y Y Y Y Y (by first | omega | (simp; omega)) (fun k => ?_) | refine Bp 0 hG Y Y Y Y Y Y Y ⟨_, Y⟩ Y Y Y Y Y (by first | omega | (simp only [List.length_append, List.length_cons, List.length_nil]; omega)) (fun k => ?_) | fail)
      | refine r_q hG Y Y Y ?_))
    | (show AL _ _ _ _ _ _ _ _; first | refine Bk Y Y Y ?_ | (refine Ar ?_; first | show AW _ _ _ _ _ _ | show ∃ x', _ < _ ∧ _)) | (show AW _ _ (.seq _ _) _ _ _; refine Ai ?_; intro Q1) | (show AW _ _ (.region _ _ false) _ _ _; refine Ad ?_; intro O1) | (show AW _ _ (.cond _ _ _) _ _ _; first | refine Ao Y ?_ | refine Ap Y ?_ | refine Ba Y (fun h => ?_) (fun h => ?_)) | (show AW _ _ (.skip) _ _ _; refine Aj ?_; first | show AW _ _ _ _ _ _ | show ∃ x', _ < _ ∧ _) | (show AW _ _ (.block _ _) _ _ _; refine Ae ?_; intro Q1) | (show AW _ _ (.exit _) _ _ _; refine Al ?_; first | show AW _ _ _ _ _ _ | show ∃ x', _ < _ ∧ _) | (show AW _ _ (.ret) _ _ _; refine Aw ?_; try dsimp only [Ax, Aa, A2, Af]) | fail)
        exact Bu (Bm rfl Bl) (.nil 1) rfl
end Go.Proofs.Ytmckbfdklcmogaa
namespace Go.Proofs.Ytmckbfdklcmogaa
open Go.Ts
set_option linter.unusedSimpArgs false
set_option linter.unusedVariables false
theorem ty_int {G : Nat → Option TI} {n t : Nat} {cs : List T} {ti : TI} {k : IntKind} (h : Ty G (n + 1) t cs) (ht : G t = some ti) (htd : ti.d = .int k) : ∃ v, cs = [.int k v] ∧ (Lit.int k v).wf = true := by
  simpa only [Ty, ht, htd] using h
theorem ty_struct {G : Nat → Option TI} {n t : Nat} {cs : List T} {ti : TI} {fs : List (Nat × Nat)} (h : Ty G (n + 1) t cs) (ht : G t = some ti) (htd : ti.d = .struct fs) : TyFs (Ty G n) fs cs := by
  simpa only [Ty, ht, htd] using h
theorem argTy_ob {G : Nat → Option TI} {n t tq ti8 tl ts tb tc tr tu tps t16 o0 o1 o2 o3 o4 o5 o6 o7 o8 o9 o10 o11 o12 o13 o14 : Nat} {tp : Nat} {x : T} {it iq ii il is ib ic ir iu ips : TI}
    (h : ArgTy G (n + 6) t x) (ht : G t = some it) (htd : it.d = .struct [(o0, tq), (o1, ti8), (o2, tl), (o3, ts), (o4, ti8), (o5, ti8), (o6, ti8), (o7, tb), (o8, tc), (o9, tr)])
    (hq : G tq = some iq) (hqd : iq.d = .int .u64) (hi : G ti8 = some ii) (hid : ii.d = .int .i64) (hl : G tl = some il) (hld : il.d = .struct [(o10, tu), (o11, tps)]) (hs : G ts = some is) (hsd : is.d = .struct [(o12, tc), (o13, tc), (o14, tc)])
    (hb : G tb = some ib) (hbd : ib.d = .slice tu) (hc : G tc = some ic) (hcd : ic.d = .slice t16) (hr : G tr = some ir) (hrd : ir.d = .slice tb) (hu : G tu = some iu) (hud : iu.d = .int .u8)
    (hps : G tps = some ips) (hpsd : ips.d = .slice tp) :
    ∃ o : OB, x = oT o := by
  obtain ⟨cs, rfl, p0, q0, rfl, f0, p1, q1, rfl, f1, p2, q2, rfl, f2, p3, q3, rfl, f3, p4, q4, rfl, f4, p5, q5, rfl, f5, p6, q6, rfl, f6, p7, q7, rfl, f7, p8, q8, rfl, f8, p9, q9, rfl, f9, rfl⟩ := argTy_struct h ht htd
  obtain ⟨v0, rfl, w0⟩ := ty_int f0 hq hqd
  obtain ⟨v1, rfl, w1⟩ := ty_int f1 hi hid
  obtain ⟨l1, m1, rfl, g1, l2, m2, rfl, g2, rfl⟩ := ty_struct f2 hl hld
  obtain ⟨vd, rfl, wd⟩ := ty_int g1 hu hud
  obtain ⟨xs, rfl, hxs, _⟩ := ty_slice g2 hps hpsd
  obtain ⟨s1, n1, rfl, e1, s2, n2, rfl, e2, s3, n3, rfl, e3, rfl⟩ := ty_struct f3 hs hsd
  obtain ⟨a, rfl, ha⟩ := ty_slice e1 hc hcd
  obtain ⟨b, rfl, hb'⟩ := ty_slice e2 hc hcd
  obtain ⟨c, rfl, hc'⟩ := ty_slice e3 hc hcd
  obtain ⟨v4, rfl, w4⟩ := ty_int f4 hi hid
  obtain ⟨v5, rfl, w5⟩ := ty_int f5 hi hid
  obtain ⟨v6, rfl, w6⟩ := ty_int f6 hi hid
  obtain ⟨d, rfl, hd⟩ := ty_slice f7 hb hbd
  obtain ⟨cc, rfl, hcc⟩ := ty_slice f8 hc hcd
  obtain ⟨r, rfl, hr1⟩ := ty_slice f9 hr hrd
  have u0 := wf_u64 w0
  refine ⟨⟨v0.toNat, v1, .int .u8 vd, .sl ((sizeT G tp).getD 0) .no xs, .sl ((sizeT G t16).getD 0) .no a, .sl ((sizeT G t16).getD 0) .no b, .sl ((sizeT G t16).getD 0) .no c, .int .i64 v4, .int .i64 v5, .int .i64 v6, .sl ((sizeT G tu).getD 0) .no d, .sl ((sizeT G t16).getD 0) .no cc, .sl ((sizeT G tb).getD 0) .no r, by omega, by rfl⟩, ?_⟩
  simp only [oT, List.cons_append, List.nil_append]
  rw [show ((v0.toNat : Nat) : Int) = v0 by omega]
theorem obs_of {G : Nat → Option TI} {n e : Nat} (k : ∀ x, ArgTy G n e x → ∃ o : OB, x = oT o) : ∀ (xs : List T), (∀ y ∈ xs, Ty G n e y.cells ∧ AggOK G e y) → ∃ l : List OB, xs = l.map oT
  | [], _ => ⟨[], rfl⟩
  | x :: xs, h => by
    obtain ⟨l, hl⟩ := obs_of k xs (fun y hy => h y (List.mem_cons_of_mem _ hy))
    obtain ⟨o, rfl⟩ := k x (h x List.mem_cons_self)
    exact ⟨o :: l, by rw [hl]; rfl⟩
theorem argTy_obs {x : T} (h : ArgTy G 7 22 x) : ∃ l : List OB, x = .sl 13 .no (l.map oT) ∧ l.length ≤ bigLen := by
  obtain ⟨xs, h1, h2, h3⟩ := ty_slice (argTy_cells h rfl rfl) rfl rfl
  obtain ⟨l, rfl⟩ := obs_of (fun x hx => argTy_ob (n := 0) hx rfl rfl rfl rfl rfl rfl rfl rfl rfl rfl rfl rfl rfl rfl rfl rfl rfl rfl rfl rfl) xs h3
  injection h1 with h1
  exact ⟨l, h1, by simpa using h2⟩
end Go.Proofs.Ytmckbfdklcmogaa
namespace Go.Proofs.Ytmckbfdklcmogaa
open Go.Ts
set_option linter.unusedSimpArgs false
set_option linter.unusedVariables false
set_option linter.unnecessarySimpa false
attribute [local irreducible] Go.Ts.AW Go.Ts.AOps Go.Ts.AL Go.Ts.AOp Go.Ts.ACalls Go.Ts.DL Go.Ts.DQ0 Go.Ts.EL
theorem reachO {own : Own} {l : List OB} (hl : l.length < 256) {R : List Nat} (hR : reachL l = R) : Ts.Pure Try.prog 10 [.sl 13 own (l.map oT)] (.sl 1 .no (R.map mT)) := by
  rw [← hR]
  exact Pure.weak (us := [.sl 13 .no (l.map oT)]) (walk_Reach hl) (wk1 (.own _ _ _))
theorem mem_take_succ {r : List Nat} {m id : Nat} (h : m < r.length) : decide (id ∈ r.take (m + 1)) = (decide (id ∈ r.take m) || decide (r.getD m default = id)) := by
  rw [List.take_add_one]
  simp only [List.getD, h, List.getElem?_eq_getElem, Option.toList_some, Option.getD_some, List.mem_append, List.mem_singleton, Bool.decide_or]
  rw [decide_eq_decide.2 (eq_comm (a := id) (b := r[m]))]
theorem filter_snoc {l : List OB} {i : Nat} {p : OB → Bool} (h : i < l.length) : (l.take (i + 1)).filter p = (l.take i).filter p ++ (if p (l.getD i default) = true then [l.getD i default] else []) := by
  rw [List.take_add_one, List.filter_append]
  congr 1
  simp only [List.getElem?_eq_getElem h, Option.toList_some, List.getD, Option.getD_some]
  by_cases hb : p l[i] = true <;> simp [hb]
end Go.Proofs.Ytmckbfdklcmogaa
namespace Go.Proofs.Ytmckbfdklcmogaa
open Go.Ts
set_option linter.unusedSimpArgs false
set_option linter.unusedVariables false
set_option linter.unnecessarySimpa false
attribute [local irreducible] Go.Ts.AW Go.Ts.AOps Go.Ts.AL Go.Ts.AOp Go.Ts.ACalls Go.Ts.DL Go.Ts.DQ0 Go.Ts.EL
theorem withinO {own : Own} {l : List OB} {v : Nat} (hl : l.length ≤ 31) {R : List Nat} (hR : withinL l v = R) : Ts.Pure Try.prog 12 [.sl 13 own (l.map oT), mT v] (.sl 1 .no (R.map mT)) := by
  rw [← hR]
  exact Pure.weak (us := [.sl 13 .no (l.map oT), mT v]) (walk_Within hl) (wk2 (.own _ _ _) (.refl _))
end Go.Proofs.Ytmckbfdklcmogaa
