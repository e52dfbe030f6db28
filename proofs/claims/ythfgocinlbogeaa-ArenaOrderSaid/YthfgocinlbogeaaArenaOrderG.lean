/- Part of the proof of the law ArenaOrder: the texts TsJ, AH, AI. No conditions. -/
import Derived.Test.YthfgocinlbogeaaArenaOrderF
set_option linter.unusedSimpArgs false
set_option linter.unusedVariables false
namespace Go.Ts
set_option linter.unusedSimpArgs false
set_option linter.unusedVariables false
section
variable {G : Nat → Option TI}
theorem wf_u8 {n : Int} (h : (Lit.int .u8 n).wf = true) : 0 ≤ n ∧ n < 256 := by
  simp only [Lit.wf, IntKind.min, IntKind.max, IntKind.bits, IntKind.signed, Bool.and_eq_true] at h; simp at h; omega
theorem argTy_cells {n t : Nat} {x : T} {ti : TI} (h : ArgTy G n t x) (ht : G t = some ti) (hd : ti.d.agg = false) : Ty G n t [x] := by
  have h1 := h.1
  rwa [(h.2 _ ht).2 hd] at h1
theorem ty_slice {n t e : Nat} {cs : List T} {ti : TI} (h : Ty G (n + 1) t cs) (ht : G t = some ti) (htd : ti.d = .slice e) :
    ∃ xs, cs = [.sl ((sizeT G e).getD 0) .no xs] ∧ xs.length ≤ bigLen ∧ ∀ y ∈ xs, Ty G n e y.cells ∧ AggOK G e y := by
  simpa only [Ty, ht, htd] using h
theorem bytes_of_ty {n e : Nat} {ie : TI} (he : G e = some ie) (hed : ie.d = .int .u8) : ∀ (xs : List T), (∀ y ∈ xs, Ty G (n + 1) e y.cells ∧ AggOK G e y) → ∃ b : List UInt8, xs = b.map bT
  | [], _ => ⟨[], rfl⟩
  | x :: xs, h => by
    obtain ⟨b, hb⟩ := bytes_of_ty he hed xs (fun y hy => h y (List.mem_cons_of_mem _ hy))
    obtain ⟨h1, h2⟩ := h x List.mem_cons_self
    simp only [Ty, he, hed] at h1
    obtain ⟨v, hv, hw⟩ := h1
    obtain ⟨l, u⟩ := wf_u8 hw
    refine ⟨UInt8.ofNat v.toNat :: b, ?_⟩
    have : x = .int .u8 v := by
      have h5 := (h2 _ he).2 (by rw [hed]; rfl)
      rw [h5] at hv; injection hv
    subst this
    rw [hb, List.map_cons]
    congr 1
    unfold bT
    have : (UInt8.ofNat v.toNat).toNat = v.toNat := by simp [UInt8.toNat_ofNat]; omega
    rw [this]; congr 1; omega
theorem ty_bytes {n t e : Nat} {cs : List T} {ti ie : TI} (h : Ty G (n + 2) t cs) (ht : G t = some ti) (htd : ti.d = .slice e) (he : G e = some ie) (hed : ie.d = .int .u8) (hs : ie.size = 1) : ∃ b : List UInt8, cs = [sT b] ∧ b.length ≤ bigLen := by
  obtain ⟨xs, h1, h2, h3⟩ := ty_slice h ht htd
  obtain ⟨b, rfl⟩ := bytes_of_ty he hed xs h3
  exact ⟨b, by rw [h1]; simp [sizeT, he, hs, sT], by simpa using h2⟩
theorem argTy_bytes {n t e : Nat} {x : T} {ti ie : TI} (h : ArgTy G (n + 2) t x) (ht : G t = some ti) (htd : ti.d = .slice e) (he : G e = some ie) (hed : ie.d = .int .u8) (hs : ie.size = 1) : ∃ b : List UInt8, x = sT b ∧ b.length ≤ bigLen := by
  obtain ⟨b, h1, h2⟩ := ty_bytes (argTy_cells h ht (by rw [htd]; rfl)) ht htd he hed hs
  injection h1 with h1
  exact ⟨b, h1, h2⟩
end
end Go.Ts
namespace Go.Ts
section
variable {P : Program} {G : Nat → Option TI} {N : Nat} {σ : St} {a : Env} {K : Env → St → Prop} {d : Tmp} {ty : TypeId} {pos : String} {af : Array Edge} {gd : Option (Nat × Bool)}
theorem OnL.weak {g : FuncId} {ts us : List T} {L0 : List (Nat × Ob)} {R : T → List (Nat × Ob) → Prop} (h : OnL P g us L0 R) (hw : WkL ts us) : OnL P g ts L0 R := fun off => (h off).weakL hw
theorem r_onL0 {f : Operand} {args : Array Operand} {tys : Array TypeId} {g : FuncId} {ts : List T} {L0 : List (Nat × Ob)} {R : T → List (Nat × Ob) → Prop}
    (hf : A9 a f = some (.fn (.func g) [])) (ha : argsT a args.toList = some ts) (hd : Bm N (some d) = true) (hnx : σ.nx = none) (hL : σ.L = L0) (h : OnL P g ts L0 R)
    (k : ∀ u L', R u L' → K (put a (some d) u) { σ with L := L' }) : AOp P N ⟨some d, .call ⟨.value f, args, tys⟩, ty, pos, af, gd⟩ a σ K := by
  refine r_onL hf ha hd hnx (Lf := []) (by rw [hL, List.append_nil]) h ?_
  intro u L' hR
  rw [List.append_nil]; exact k u L' hR
end
end Go.Ts
namespace Go.Proofs.Ythfgocinlbogeaa
open Go.Ts
set_option linter.unusedSimpArgs false
set_option linter.unusedVariables false
set_option linter.unnecessarySimpa false
attribute [local irreducible] Go.Ts.AW Go.Ts.AOps Go.Ts.AL Go.Ts.AOp Go.Ts.ACalls Go.Ts.DL Go.Ts.DQ0 Go.Ts.EL
theorem same_p (v : UInt8) (l : List SB) (at' : List (Nat × Int)) (p ri m : Nat) : (arL v l at' p ri m).Perm (arL v l at' p ri m ++ []) := List.Perm.of_eq (List.append_nil _).symm
abbrev bg1 : List SB := (flS []).set (fidx []) (bump ((flS []).getD (fidx []) default) 5 (by decide) [1, 9])
abbrev bg2 : List (Nat × Int) := kset [] 5 ((fidx [] : Nat) : Int)
theorem arena_begun : Ts.Pure Try.prog 30 [] (.bool true) := by
  intro off
  refine Bp (N := 50) (rs := [.tmp 0]) hG Try.func30 rfl rfl rfl rfl rfl ?_
  repeat' (first
    | ((show AL _ _ _ _ _ _ _ _; refine Ae Y ?_); (first
      | refine Aq hG Y Y ?_
      | refine A5 hG Y Y ?_
      | (show AOp _ _ ⟨_, .call ⟨.builtin .len, _, _⟩, _, _, _, _⟩ _ _ _; first | refine Br hG Y Y Y Y ?_ | refine Bx hG Y Y Y Y Y ?_)
      | (show AOp _ _ ⟨_, .binOp _ _ _ _ _, _, _, _, _⟩ _ _ _; first | refine Au hG Y Y Y Y Y (by omega) ?_ | refine At hG Y Y Y Y Y (by omega) ?_ | (refine Am hG Y Y Y Y Y (fun h => ?_) (fun h => ?_)) | refine Bv hG Y Y Y Y ?_)
      | refine Bc hG Y Y Y ?_
      | (show AOp _ _ ⟨_, .buildSlice _ _ _, _, _, _, _⟩ _ _ _; first | refine r_mk (sz := 1) hG Y Y Y Y Y Y Y ?_)
      | refine r_q hG Y Y Y ?_))
    | (show AL _ _ _ _ _ _ _ _; first | refine Bj Y Y Y ?_ | (refine Ar ?_; first | show AW _ _ _ _ _ _ | show ∃ x', _ < _ ∧ _)) | (show AW _ _ (.seq _ _) _ _ _; refine Ah ?_; intro Q1) | (show AW _ _ (.region _ _ false) _ _ _; refine Ad ?_; intro O1) | (show AW _ _ (.ret) _ _ _; refine Av ?_; try dsimp only [A3, Ac, A7, Ag]) | fail)
  refine Ae rfl (r_onL0 rfl rfl rfl rfl rfl (arena_New 1) ?_)
  rintro u L' ⟨p, m, rfl, rfl⟩
  repeat' (first
    | ((show AL _ _ _ _ _ _ _ _; refine Ae Y ?_); (first
      | refine Aq hG Y Y ?_
      | refine A5 hG Y Y ?_
      | (show AOp _ _ ⟨_, .call ⟨.builtin .len, _, _⟩, _, _, _, _⟩ _ _ _; first | refine Br hG Y Y Y Y ?_ | refine Bx hG Y Y Y Y Y ?_)
      | (show AOp _ _ ⟨_, .binOp _ _ _ _ _, _, _, _, _⟩ _ _ _; first | refine Au hG Y Y Y Y Y (by omega) ?_ | refine At hG Y Y Y Y Y (by omega) ?_ | (refine Am hG Y Y Y Y Y (fun h => ?_) (fun h => ?_)) | refine Bv hG Y Y Y Y ?_)
      | refine Bc hG Y Y Y ?_
      | (show AOp _ _ ⟨_, .buildSlice _ _ _, _, _, _, _⟩ _ _ _; first | refine r_mk (sz := 1) hG Y Y Y Y Y Y Y ?_)
      | refine r_q hG Y Y Y ?_))
    | (show AL _ _ _ _ _ _ _ _; first | refine Bj Y Y Y ?_ | (refine Ar ?_; first | show AW _ _ _ _ _ _ | show ∃ x', _ < _ ∧ _)) | (show AW _ _ (.seq _ _) _ _ _; refine Ah ?_; intro Q1) | (show AW _ _ (.region _ _ false) _ _ _; refine Ad ?_; intro O1) | (show AW _ _ (.ret) _ _ _; refine Av ?_; try dsimp only [A3, Ac, A7, Ag]) | fail)
  refine Ae rfl (r_onL0 rfl rfl rfl rfl rfl ((arena_Put_new 1 [] [] (id := 5) (b := [1, 9]) (by decide) (by decide) (by decide) (by decide) (by decide) p 0 m).weak (wk3 (.refl _) (.refl _) (.own _ _ _))) ?_)
  rintro u L' ⟨ri, rfl, rfl⟩
  have h1 := And.intro ((arena_Put_no 1 bg1 bg2 (id := 5) (b := [2]) (by decide) (by decide) p ri m).weak (wk3 (.refl _) (.refl _) (.own 1 .full _))) (same_p 1 bg1 bg2 p ri m)
  have h2 := And.intro (arena_Get_is 1 bg1 bg2 (id := 5) (j := 0) (by decide) (by decide) (by decide) (by decide) (by decide) p ri m) (same_p 1 bg1 bg2 p ri m)
  have h3 := And.intro (arena_Size 1 bg1 bg2 (by decide) (by decide) p ri m) (same_p 1 bg1 bg2 p ri m)
  have h4 := And.intro (arena_IDs 1 bg1 bg2 (by decide) p ri m) (same_p 1 bg1 bg2 p ri m)
  have e5 : idsA bg1 = [5] := by unfold idsA; rw [srtL_isort]; decide
  have e6 : bytesA bg1 bg2 = [0, 0, 0, 0, 0, 0, 0, 5, 0, 2, 1, 9] := by unfold bytesA; rw [e5]; decide
  have h5 := And.intro (arena_Bytes 1 bg1 bg2 (by decide) (by decide) (by rw [e5]; intro id hid; obtain rfl : id = 5 := (by simpa using hid); exact ⟨0, by decide, by decide, by decide⟩) p ri m) (same_p 1 bg1 bg2 p ri m)
  rw [e5] at h4
  rw [e6] at h5
  have n1 : ([5] : List Nat).length = 1 := rfl
  have n2 : sizeA bg1 = 2 := by decide
  rw [n2] at h3
  have n3 : ((bg1.getD 0 default).bs).length = 2 := rfl
  have n4 : ([0, 0, 0, 0, 0, 0, 0, 5, 0, 2, 1, 9] : List UInt8).length = 12 := rfl
  repeat' (first
    | ((show AL _ _ _ _ _ _ _ _; refine Ae Y ?_); (first
      | refine Aq hG Y Y ?_
      | refine A5 hG Y Y ?_
      | (show AOp _ _ ⟨_, .call ⟨.builtin .len, _, _⟩, _, _, _, _⟩ _ _ _; first | refine Br hG Y Y Y Y ?_ | refine Bx hG Y Y Y Y Y ?_)
      | (show AOp _ _ ⟨_, .binOp _ _ _ _ _, _, _, _, _⟩ _ _ _; first | refine Au hG Y Y Y Y Y (by omega) ?_ | refine At hG Y Y Y Y Y (by omega) ?_ | (refine Am hG Y Y Y Y Y (fun h => ?_) (fun h => ?_)) | refine Bv hG Y Y Y Y ?_)
      | refine Bc hG Y Y Y ?_
      | (show AOp _ _ ⟨_, .buildSlice _ _ _, _, _, _, _⟩ _ _ _; first | refine r_mk (sz := 1) hG Y Y Y Y Y Y Y ?_)
      | (show AOp _ _ ⟨_, .call ⟨.value _, _, _⟩, _, _, _, _⟩ _ _ _; first | refine r_onS Y Y Y Y h1.1 h1.2 ?_ | refine r_onS Y Y Y Y h2.1 h2.2 ?_ | refine r_onS Y Y Y Y h3.1 h3.2 ?_ | refine r_onS Y Y Y Y h4.1 h4.2 ?_ | refine r_onS Y Y Y Y h5.1 h5.2 ?_ | fail)
      | refine r_q hG Y Y Y ?_))
    | (show AL _ _ _ _ _ _ _ _; first | refine Bj Y Y Y ?_ | (refine Ar ?_; first | show AW _ _ _ _ _ _ | show ∃ x', _ < _ ∧ _)) | (show AW _ _ (.seq _ _) _ _ _; refine Ah ?_; intro Q1) | (show AW _ _ (.region _ _ false) _ _ _; refine Ad ?_; intro O1) | (show AW _ _ (.ret) _ _ _; refine Av ?_; try dsimp only [A3, Ac, A7, Ag]) | fail)
  exact ret_pure (Bq rfl Bo) (.refl _) rfl
end Go.Proofs.Ythfgocinlbogeaa
namespace Go.Proofs.Ythfgocinlbogeaa
open Go.Ts
set_option linter.unusedSimpArgs false
set_option linter.unusedVariables false
set_option linter.unnecessarySimpa false
attribute [local irreducible] Go.Ts.AW Go.Ts.AOps Go.Ts.AL Go.Ts.AOp Go.Ts.ACalls Go.Ts.DL Go.Ts.DQ0 Go.Ts.EL
def putL (l : List SB) (at' : List (Nat × Int)) (id : Nat) (hid : id < 18446744073709551616) (b : List UInt8) : List SB :=
  if khas at' id = true then l.set (klook at' id).toNat (bump (l.getD (klook at' id).toNat default) id hid b) else (flS l).set (fidx l) (bump ((flS l).getD (fidx l) default) id hid b)
def putA (l : List SB) (at' : List (Nat × Int)) (id : Nat) : List (Nat × Int) := if khas at' id = true then at' else kset at' id ((fidx l : Nat) : Int)
theorem arena_Put_ok (v : UInt8) (l : List SB) (at' : List (Nat × Int)) (hw : WFA l at') {id : Nat} {b : List UInt8} (hid : id < 18446744073709551616) (hb : b.length ≤ 4294967296) (h : putsB v b = true) (hl : l.length ≤ 999999) (p ri m : Nat) :
    OnL Try.prog 32 [.ptr p 0, .int .u64 (id : Int), sT b] (arL v l at' p ri m) (fun u L => ∃ i', u = .int .i64 0 ∧ L = arL v (putL l at' id hid b) (putA l at' id) p i' m) := by
  unfold putL putA
  cases hk : khas at' id with
  | true =>
    obtain ⟨j, g1, g2, g3, g4⟩ := hw.b id hk
    rw [if_pos rfl, if_pos rfl, g1, Int.toNat_natCast]
    exact fun off => (arena_Put_old v l at' hid hb h hk g1 g2 (by omega) p ri m off).mono fun u σ' ⟨L', ⟨h1, h2⟩, h3⟩ => ⟨L', ⟨ri, h1, h2⟩, h3⟩
  | false =>
    rw [if_neg (by decide), if_neg (by decide)]
    exact arena_Put_new v l at' hid hb h hk hl p ri m
theorem put_wfa {l : List SB} {at' : List (Nat × Int)} (hw : WFA l at') (id : Nat) (hid : id < 18446744073709551616) (b : List UInt8) : WFA (putL l at' id hid b) (putA l at' id) := by
  unfold putL putA
  cases hk : khas at' id with
  | true =>
    obtain ⟨j, g1, g2, g3, g4⟩ := hw.b id hk
    rw [if_pos rfl, if_pos rfl, g1, Int.toNat_natCast]
    exact wfa_old hw hk g1 _ ⟨rfl, rfl⟩
  | false =>
    rw [if_neg (by decide), if_neg (by decide)]
    exact wfa_new hw hk _ ⟨rfl, rfl⟩
theorem put_has {l : List SB} {at' : List (Nat × Int)} (id id' : Nat) : khas (putA l at' id) id' = (decide (id' = id) || khas at' id') := by
  unfold putA
  cases hk : khas at' id with
  | true =>
    rw [if_pos rfl]
    by_cases e : id' = id
    · subst e; simp [hk]
    · simp [e]
  | false => rw [if_neg (by decide), khas_kset]
theorem put_rec {l : List SB} {at' : List (Nat × Int)} (hw : WFA l at') (id : Nat) (hid : id < 18446744073709551616) (b : List UInt8) (id' : Nat) (h : khas at' id' = true ∨ id' = id) : recA (putL l at' id hid b) (putA l at' id) id' = if id' = id then b else recA l at' id' := by
  unfold putL putA
  cases hk : khas at' id with
  | true =>
    obtain ⟨j, g1, g2, g3, g4⟩ := hw.b id hk
    rw [if_pos rfl, if_pos rfl, g1, Int.toNat_natCast]
    exact rec_old hw hk g1 _ id' (h.elim (fun h => h) (fun h => h ▸ hk))
  | false =>
    rw [if_neg (by decide), if_neg (by decide)]
    exact rec_new hw hk _ id' h
theorem put_len {l : List SB} {at' : List (Nat × Int)} (id : Nat) (hid : id < 18446744073709551616) (b : List UInt8) : (putL l at' id hid b).length ≤ l.length + 1 := by
  unfold putL
  split
  · rw [List.length_set]; omega
  · rw [List.length_set]; exact (fidx_lt l).2
theorem put_all {l : List SB} {at' : List (Nat × Int)} (P : SB → Prop) (id : Nat) (hid : id < 18446744073709551616) (b : List UInt8) (h0 : P default) (h1 : ∀ s, P (bump s id hid b)) (h : ∀ s ∈ l, P s) : ∀ s ∈ putL l at' id hid b, P s := by
  unfold putL
  intro s hs
  split at hs
  · rcases List.mem_or_eq_of_mem_set hs with h2 | h2
    · exact h s h2
    · rw [h2]; exact h1 _
  · rcases List.mem_or_eq_of_mem_set hs with h2 | h2
    · unfold flS at h2
      split at h2
      · rcases List.mem_append.1 h2 with h3 | h3
        · exact h s h3
        · rw [List.mem_singleton.1 h3]; exact h0
      · exact h s h2
    · rw [h2]; exact h1 _
theorem size_two {l : List SB} (h : ∀ s ∈ l, s.taken = true → s.bs.length = 2) : sizeA l = 2 * (namesOf l).length := by
  unfold sizeA namesOf
  induction l with
  | nil => rfl
  | cons s l ih =>
    have ih := ih fun x hx => h x (by simp [hx])
    rw [List.map_cons, List.sum_cons, ih]
    cases ht : s.taken with
    | true => rw [if_pos rfl, h s (by simp) ht]; simp [ht]; omega
    | false => simp [ht]
theorem ex_succ {f : Nat → Nat} {i id : Nat} : (∃ j, j < i + 1 ∧ f j = id) ↔ f i = id ∨ ∃ j, j < i ∧ f j = id := by
  constructor
  · rintro ⟨j, h1, h2⟩
    by_cases e : j = i
    · subst e; exact .inl h2
    · exact .inr ⟨j, by omega, h2⟩
  · rintro (h | ⟨j, h1, h2⟩)
    · exact ⟨i, by omega, h⟩
    · exact ⟨j, by omega, h2⟩
structure OsX (ids : List Nat) where
  i : Nat
  h1 : 1 ≤ i
  hi : i ≤ ids.length
structure OrX (ls : List UInt8) (k : Nat) where
  i : Nat
  la : List SB
  aa : List (Nat × Int)
  ra : Nat
  lb : List SB
  ab : List (Nat × Int)
  rb : Nat
  hi : i ≤ ls.length
  wa : WFA la aa
  wb : WFA lb ab
  na : la.length ≤ i
  nb : lb.length ≤ 2 * i
  ha : ∀ id, khas aa id = true ↔ ∃ j, j < i ∧ (ls.getD j default).toNat = id
  hb : ∀ id, khas ab id = true ↔ ∃ j, j < i ∧ (ls.getD ((j + k) % ls.length) default).toNat = id
  ga : ∀ id, khas aa id = true → recA la aa id = [1, UInt8.ofNat id]
  gb : ∀ id, khas ab id = true → recA lb ab id = [1, UInt8.ofNat id]
  ta : ∀ s ∈ la, s.taken = true → s.bs.length = 2
  sa : ∀ s ∈ la, s.bs.length ≤ 60000
  sb : ∀ s ∈ lb, s.bs.length ≤ 60000
set_option maxHeartbeats 2000000 in
theorem arenaOrder_pure {ls : List UInt8} {n : UInt8} (hls : ls.length ≤ bigLen) : Ts.Pure Try.prog 8 [sT ls, bT n] (.bool true) := by
  have h0 := arena_begun
  intro off
  by_cases hz : ls.length = 0
  · refine Bp (N := 111) (rs := [.tmp 4]) hG Try.func8 rfl rfl rfl rfl rfl ?_
    repeat' (first
    | ((first | (show AL _ _ _ _ _ _ _ _; refine Ae Y ?_) | (show DL _ _ _ _ _ _ _; refine' A6 Y Y (fun K kk => ?_) ?_; try (show Go.Ts.T; rotate_left))); (first
      | refine Aq hG Y Y ?_
      | refine A5 hG Y Y ?_
      | (show AOp _ _ ⟨_, .call ⟨.builtin .len, _, _⟩, _, _, _, _⟩ _ _ _; first | refine Br hG Y Y Y Y ?_ | refine Bx hG Y Y Y Y Y ?_)
      | (show AOp _ _ ⟨_, .binOp .add _ _ _ _, _, _, _, _⟩ _ _ _; first | refine Ab hG Y Y Y Y Y (by omega) ?_ | refine Ab (m := 1) hG Y Y Y Y Y (by omega) ?_ | refine Aa hG Y Y Y Y Y (by omega) ?_)
      | (show AOp _ _ ⟨_, .binOp .sub _ _ _ _, _, _, _, _⟩ _ _ _; first | refine Al hG Y Y Y Y (by omega) ?_ | refine Al (m := 1) hG Y Y Y Y (by omega) ?_ | refine r_subU (m := 1) hG Y Y Y Y (by omega) ?_ | refine Aa hG Y Y Y Y Y (by omega) ?_)
      | (show AOp _ _ ⟨_, .binOp .mul _ _ _ _, _, _, _, _⟩ _ _ _; first | refine Ab hG Y Y Y Y Y (by omega) ?_ | refine Ab (m := 1) hG Y Y Y Y Y (by omega) ?_ | refine Ab (m := 2) hG Y Y Y Y Y (by omega) ?_ | refine Ab (m := 3) hG Y Y Y Y Y (by omega) ?_ | refine Ab (n := 2) hG Y Y Y Y Y (by omega) ?_ | refine Aa hG Y Y Y Y Y (by omega) ?_)
      | (show AOp _ _ ⟨_, .binOp .rem _ _ _ _, _, _, _, _⟩ _ _ _; first | refine r_rem hG Y Y Y Y (by omega) ?_ | refine r_trem hG Y Y Y Y (by omega) ?_)
      | (show AOp _ _ ⟨_, .binOp _ _ _ _ _, _, _, _, _⟩ _ _ _; first | refine Au hG Y Y Y Y Y (by omega) ?_ | refine At hG Y Y Y Y Y (by omega) ?_ | refine r_strT hG Y Y Y Y (by first | rfl | assumption) ?_ | refine r_strnF hG Y Y Y Y (by first | rfl | assumption) ?_ | refine r_strF hG Y Y Y Y (by assumption) ?_ | refine r_strnT hG Y Y Y Y (by assumption) ?_ | ((fail_if_success have := kk); refine Am hG Y Y Y Y Y (fun h => ?_) (fun h => ?_)) | ((fail_if_success have := kk); first | refine r_str hG Y Y Y Y (fun h => ?_) (fun h => ?_) | refine r_strn hG Y Y Y Y (fun h => ?_) (fun h => ?_)) | refine Bv hG Y Y Y Y ?_)
      | (show AOp _ _ ⟨_, .load _ _, _, _, _, _⟩ _ _ _; first | refine A2 0 sbT hG Y Y Y Y Y (by omega) Y ?_ | refine A1 0 sbT hG Y Y Y Y Y (by omega) Y ?_ | refine A2 1 sbT hG Y Y Y Y Y (by omega) Y ?_ | refine A1 1 sbT hG Y Y Y Y Y (by omega) Y ?_ | refine A2 2 sbT hG Y Y Y Y Y (by omega) Y ?_ | refine A1 2 sbT hG Y Y Y Y Y (by omega) Y ?_ | refine A2 3 sbT hG Y Y Y Y Y (by omega) Y ?_ | refine A1 3 sbT hG Y Y Y Y Y (by omega) Y ?_ | refine Ak (α := UInt16) 0 hG Y Y Y Y (by omega) Y ?_ | refine Ak (α := UInt16) 1 hG Y Y Y Y (by omega) Y ?_ | refine Ay hG Y Y Y ?_ | refine A8 0 hG Y Y Y Y ?_)
      | (show AOp _ _ ⟨_, .indexAddr _ _ _, _, _, _, _⟩ _ _ _; first | refine Bw (sz := 4) hG Y Y Y Y Y Y Y (by omega) ?_ | refine A4 hG Y Y Y Y Y Y Y (by omega) ?_ | refine Az hG Y Y Y Y Y Y Y (by omega) ?_ | refine Ax hG Y Y Y Y Y Y Y (by omega) ?_ | refine Bb hG Y Y ?_)
      | (show AOp _ _ ⟨_, .convert _ _ _, _, _, _, _⟩ _ _ _; first | refine r_tostr hG Y Y Y Y Y Y Y Y (by first | exact Ba _ _ | exact Bi _ | rfl) ?_ | refine r_cv8 hG Y Y Y Y Y Y ?_ | refine r_cv_i64 hG Y Y Y Y Y (by omega) ?_ | refine Ca hG Y Y Y Y Y (by omega) ?_ | refine r_cvw hG Y Y Y Y Y ?_)
      | refine Bc hG Y Y Y ?_
      | refine Bn hG Y Y Y ?_
      | (show AOp _ _ ⟨_, .buildSlice _ _ _, _, _, _, _⟩ _ _ _; first | refine r_mk (sz := 1) hG Y Y Y Y Y Y Y ?_)
      | (show AOp _ _ ⟨_, .call ⟨.value _, _, _⟩, _, _, _, _⟩ _ _ _; first | refine B0 Y Y Y Y Y (by first | (apply h0 <;> (first | assumption | omega | exact Ba _ _ | exact Bi _ | exact Bk _ _ | exact Bs _ | rfl | (simp; omega))) | fail) ?_ | fail)
      | refine r_q hG Y Y Y ?_); try exact kk)
    | (show AL _ _ _ _ _ _ _ _; first | refine Bj Y Y Y ?_ | (refine Ar ?_; first | show AW _ _ _ _ _ _ | show ∃ x', _ < _ ∧ _)) | (show AW _ _ (.seq _ _) _ _ _; refine Ah ?_; intro Q1) | (show AW _ _ (.region _ _ false) _ _ _; refine Ad ?_; intro O1) | (show AW _ _ (.cond _ _ _) _ _ _; first | refine Ao Y ?_ | refine Ap Y ?_ | refine Bf Y (fun h => ?_) (fun h => ?_)) | (show AW _ _ (.skip) _ _ _; refine Aj ?_; first | show AW _ _ _ _ _ _ | show ∃ x', _ < _ ∧ _) | (show AW _ _ (.block _ _) _ _ _; refine Af ?_; intro Q1) | (show AW _ _ (.exit _) _ _ _; refine As ?_; first | show AW _ _ _ _ _ _ | show ∃ x', _ < _ ∧ _) | (show AW _ _ (.ret) _ _ _; refine Av ?_; try dsimp only [A3, Ac, A7, Ag])
    | (show DL _ _ _ _ _ _ _; refine Bt Y Y (fun K kt kf => Am hG Y Y Y Y Y kt kf) (fun h => ?_) (fun h => ?_)) | (show DL _ _ _ _ _ _ _; refine Bt Y Y (fun K kt kf => r_str hG Y Y Y Y kt kf) (fun h => ?_) (fun h => ?_)) | (show DL _ _ _ _ _ _ _; refine dl_ne Y Y (fun K kt kf => r_strn hG Y Y Y Y kt kf) (fun h => ?_) (fun h => ?_))
    | (show DL _ _ _ _ _ _ _; refine Bu Y Y Y ?_) | (show DL _ _ _ _ _ _ _; refine Bd ?_; first | show AW _ _ _ _ _ _ | show ∃ x', _ < _ ∧ _) | (show AW _ _ (.region _ _ true) _ _ _; refine Aw mix (by kernel_rfl) ?_; intro O1) | fail)
    exact ret_pure (Bq rfl Bo) (.refl _) rfl
  by_cases h10 : 10 < ls.length
  · refine Bp (N := 111) (rs := [.tmp 4]) hG Try.func8 rfl rfl rfl rfl rfl ?_
    repeat' (first
    | ((first | (show AL _ _ _ _ _ _ _ _; refine Ae Y ?_) | (show DL _ _ _ _ _ _ _; refine' A6 Y Y (fun K kk => ?_) ?_; try (show Go.Ts.T; rotate_left))); (first
      | refine Aq hG Y Y ?_
      | refine A5 hG Y Y ?_
      | (show AOp _ _ ⟨_, .call ⟨.builtin .len, _, _⟩, _, _, _, _⟩ _ _ _; first | refine Br hG Y Y Y Y ?_ | refine Bx hG Y Y Y Y Y ?_)
      | (show AOp _ _ ⟨_, .binOp .add _ _ _ _, _, _, _, _⟩ _ _ _; first | refine Ab hG Y Y Y Y Y (by omega) ?_ | refine Ab (m := 1) hG Y Y Y Y Y (by omega) ?_ | refine Aa hG Y Y Y Y Y (by omega) ?_)
      | (show AOp _ _ ⟨_, .binOp .sub _ _ _ _, _, _, _, _⟩ _ _ _; first | refine Al hG Y Y Y Y (by omega) ?_ | refine Al (m := 1) hG Y Y Y Y (by omega) ?_ | refine r_subU (m := 1) hG Y Y Y Y (by omega) ?_ | refine Aa hG Y Y Y Y Y (by omega) ?_)
      | (show AOp _ _ ⟨_, .binOp .mul _ _ _ _, _, _, _, _⟩ _ _ _; first | refine Ab hG Y Y Y Y Y (by omega) ?_ | refine Ab (m := 1) hG Y Y Y Y Y (by omega) ?_ | refine Ab (m := 2) hG Y Y Y Y Y (by omega) ?_ | refine Ab (m := 3) hG Y Y Y Y Y (by omega) ?_ | refine Ab (n := 2) hG Y Y Y Y Y (by omega) ?_ | refine Aa hG Y Y Y Y Y (by omega) ?_)
      | (show AOp _ _ ⟨_, .binOp .rem _ _ _ _, _, _, _, _⟩ _ _ _; first | refine r_rem hG Y Y Y Y (by omega) ?_ | refine r_trem hG Y Y Y Y (by omega) ?_)
      | (show AOp _ _ ⟨_, .binOp _ _ _ _ _, _, _, _, _⟩ _ _ _; first | refine Au hG Y Y Y Y Y (by omega) ?_ | refine At hG Y Y Y Y Y (by omega) ?_ | refine r_strT hG Y Y Y Y (by first | rfl | assumption) ?_ | refine r_strnF hG Y Y Y Y (by first | rfl | assumption) ?_ | refine r_strF hG Y Y Y Y (by assumption) ?_ | refine r_strnT hG Y Y Y Y (by assumption) ?_ | ((fail_if_success have := kk); refine Am hG Y Y Y Y Y (fun h => ?_) (fun h => ?_)) | ((fail_if_success have := kk); first | refine r_str hG Y Y Y Y (fun h => ?_) (fun h => ?_) | refine r_strn hG Y Y Y Y (fun h => ?_) (fun h => ?_)) | refine Bv hG Y Y Y Y ?_)
      | (show AOp _ _ ⟨_, .load _ _, _, _, _, _⟩ _ _ _; first | refine A2 0 sbT hG Y Y Y Y Y (by omega) Y ?_ | refine A1 0 sbT hG Y Y Y Y Y (by omega) Y ?_ | refine A2 1 sbT hG Y Y Y Y Y (by omega) Y ?_ | refine A1 1 sbT hG Y Y Y Y Y (by omega) Y ?_ | refine A2 2 sbT hG Y Y Y Y Y (by omega) Y ?_ | refine A1 2 sbT hG Y Y Y Y Y (by omega) Y ?_ | refine A2 3 sbT hG Y Y Y Y Y (by omega) Y ?_ | refine A1 3 sbT hG Y Y Y Y Y (by omega) Y ?_ | refine Ak (α := UInt16) 0 hG Y Y Y Y (by omega) Y ?_ | refine Ak (α := UInt16) 1 hG Y Y Y Y (by omega) Y ?_ | refine Ay hG Y Y Y ?_ | refine A8 0 hG Y Y Y Y ?_)
      | (show AOp _ _ ⟨_, .indexAddr _ _ _, _, _, _, _⟩ _ _ _; first | refine Bw (sz := 4) hG Y Y Y Y Y Y Y (by omega) ?_ | refine A4 hG Y Y Y Y Y Y Y (by omega) ?_ | refine Az hG Y Y Y Y Y Y Y (by omega) ?_ | refine Ax hG Y Y Y Y Y Y Y (by omega) ?_ | refine Bb hG Y Y ?_)
      | (show AOp _ _ ⟨_, .convert _ _ _, _, _, _, _⟩ _ _ _; first | refine r_tostr hG Y Y Y Y Y Y Y Y (by first | exact Ba _ _ | exact Bi _ | rfl) ?_ | refine r_cv8 hG Y Y Y Y Y Y ?_ | refine r_cv_i64 hG Y Y Y Y Y (by omega) ?_ | refine Ca hG Y Y Y Y Y (by omega) ?_ | refine r_cvw hG Y Y Y Y Y ?_)
      | refine Bc hG Y Y Y ?_
      | refine Bn hG Y Y Y ?_
      | (show AOp _ _ ⟨_, .buildSlice _ _ _, _, _, _, _⟩ _ _ _; first | refine r_mk (sz := 1) hG Y Y Y Y Y Y Y ?_)
      | (show AOp _ _ ⟨_, .call ⟨.value _, _, _⟩, _, _, _, _⟩ _ _ _; first | refine B0 Y Y Y Y Y (by first | (apply h0 <;> (first | assumption | omega | exact Ba _ _ | exact Bi _ | exact Bk _ _ | exact Bs _ | rfl | (simp; omega))) | fail) ?_ | fail)
      | refine r_q hG Y Y Y ?_); try exact kk)
    | (show AL _ _ _ _ _ _ _ _; first | refine Bj Y Y Y ?_ | (refine Ar ?_; first | show AW _ _ _ _ _ _ | show ∃ x', _ < _ ∧ _)) | (show AW _ _ (.seq _ _) _ _ _; refine Ah ?_; intro Q1) | (show AW _ _ (.region _ _ false) _ _ _; refine Ad ?_; intro O1) | (show AW _ _ (.cond _ _ _) _ _ _; first | refine Ao Y ?_ | refine Ap Y ?_ | refine Bf Y (fun h => ?_) (fun h => ?_)) | (show AW _ _ (.skip) _ _ _; refine Aj ?_; first | show AW _ _ _ _ _ _ | show ∃ x', _ < _ ∧ _) | (show AW _ _ (.block _ _) _ _ _; refine Af ?_; intro Q1) | (show AW _ _ (.exit _) _ _ _; refine As ?_; first | show AW _ _ _ _ _ _ | show ∃ x', _ < _ ∧ _) | (show AW _ _ (.ret) _ _ _; refine Av ?_; try dsimp only [A3, Ac, A7, Ag])
    | (show DL _ _ _ _ _ _ _; refine Bt Y Y (fun K kt kf => Am hG Y Y Y Y Y kt kf) (fun h => ?_) (fun h => ?_)) | (show DL _ _ _ _ _ _ _; refine Bt Y Y (fun K kt kf => r_str hG Y Y Y Y kt kf) (fun h => ?_) (fun h => ?_)) | (show DL _ _ _ _ _ _ _; refine dl_ne Y Y (fun K kt kf => r_strn hG Y Y Y Y kt kf) (fun h => ?_) (fun h => ?_))
    | (show DL _ _ _ _ _ _ _; refine Bu Y Y Y ?_) | (show DL _ _ _ _ _ _ _; refine Bd ?_; first | show AW _ _ _ _ _ _ | show ∃ x', _ < _ ∧ _) | (show AW _ _ (.region _ _ true) _ _ _; refine Aw mix (by kernel_rfl) ?_; intro O1) | fail)
    exact ret_pure (Bq rfl Bo) (.refl _) rfl
  refine Bp (N := 111) (rs := [.tmp 4]) hG Try.func8 rfl rfl rfl rfl rfl ?_
  repeat' (first
    | ((first | (show AL _ _ _ _ _ _ _ _; refine Ae Y ?_) | (show DL _ _ _ _ _ _ _; refine' A6 Y Y (fun K kk => ?_) ?_; try (show Go.Ts.T; rotate_left))); (first
      | refine Aq hG Y Y ?_
      | refine A5 hG Y Y ?_
      | (show AOp _ _ ⟨_, .call ⟨.builtin .len, _, _⟩, _, _, _, _⟩ _ _ _; first | refine Br hG Y Y Y Y ?_ | refine Bx hG Y Y Y Y Y ?_)
      | (show AOp _ _ ⟨_, .binOp .add _ _ _ _, _, _, _, _⟩ _ _ _; first | refine Ab hG Y Y Y Y Y (by omega) ?_ | refine Ab (m := 1) hG Y Y Y Y Y (by omega) ?_ | refine Aa hG Y Y Y Y Y (by omega) ?_)
      | (show AOp _ _ ⟨_, .binOp .sub _ _ _ _, _, _, _, _⟩ _ _ _; first | refine Al hG Y Y Y Y (by omega) ?_ | refine Al (m := 1) hG Y Y Y Y (by omega) ?_ | refine r_subU (m := 1) hG Y Y Y Y (by omega) ?_ | refine Aa hG Y Y Y Y Y (by omega) ?_)
      | (show AOp _ _ ⟨_, .binOp .mul _ _ _ _, _, _, _, _⟩ _ _ _; first | refine Ab hG Y Y Y Y Y (by omega) ?_ | refine Ab (m := 1) hG Y Y Y Y Y (by omega) ?_ | refine Ab (m := 2) hG Y Y Y Y Y (by omega) ?_ | refine Ab (m := 3) hG Y Y Y Y Y (by omega) ?_ | refine Ab (n := 2) hG Y Y Y Y Y (by omega) ?_ | refine Aa hG Y Y Y Y Y (by omega) ?_)
      | (show AOp _ _ ⟨_, .binOp .rem _ _ _ _, _, _, _, _⟩ _ _ _; first | refine r_rem hG Y Y Y Y (by omega) ?_ | refine r_trem hG Y Y Y Y (by omega) ?_)
      | (show AOp _ _ ⟨_, .binOp _ _ _ _ _, _, _, _, _⟩ _ _ _; first | refine Au hG Y Y Y Y Y (by omega) ?_ | refine At hG Y Y Y Y Y (by omega) ?_ | refine r_strT hG Y Y Y Y (by first | rfl | assumption) ?_ | refine r_strnF hG Y Y Y Y (by first | rfl | assumption) ?_ | refine r_strF hG Y Y Y Y (by assumption) ?_ | refine r_strnT hG Y Y Y Y (by assumption) ?_ | ((fail_if_success have := kk); refine Am hG Y Y Y Y Y (fun h => ?_) (fun h => ?_)) | ((fail_if_success have := kk); first | refine r_str hG Y Y Y Y (fun h => ?_) (fun h => ?_) | refine r_strn hG Y Y Y Y (fun h => ?_) (fun h => ?_)) | refine Bv hG Y Y Y Y ?_)
      | (show AOp _ _ ⟨_, .load _ _, _, _, _, _⟩ _ _ _; first | refine A2 0 sbT hG Y Y Y Y Y (by omega) Y ?_ | refine A1 0 sbT hG Y Y Y Y Y (by omega) Y ?_ | refine A2 1 sbT hG Y Y Y Y Y (by omega) Y ?_ | refine A1 1 sbT hG Y Y Y Y Y (by omega) Y ?_ | refine A2 2 sbT hG Y Y Y Y Y (by omega) Y ?_ | refine A1 2 sbT hG Y Y Y Y Y (by omega) Y ?_ | refine A2 3 sbT hG Y Y Y Y Y (by omega) Y ?_ | refine A1 3 sbT hG Y Y Y Y Y (by omega) Y ?_ | refine Ak (α := UInt16) 0 hG Y Y Y Y (by omega) Y ?_ | refine Ak (α := UInt16) 1 hG Y Y Y Y (by omega) Y ?_ | refine Ay hG Y Y Y ?_ | refine A8 0 hG Y Y Y Y ?_)
      | (show AOp _ _ ⟨_, .indexAddr _ _ _, _, _, _, _⟩ _ _ _; first | refine Bw (sz := 4) hG Y Y Y Y Y Y Y (by omega) ?_ | refine A4 hG Y Y Y Y Y Y Y (by omega) ?_ | refine Az hG Y Y Y Y Y Y Y (by omega) ?_ | refine Ax hG Y Y Y Y Y Y Y (by omega) ?_ | refine Bb hG Y Y ?_)
      | (show AOp _ _ ⟨_, .convert _ _ _, _, _, _, _⟩ _ _ _; first | refine r_tostr hG Y Y Y Y Y Y Y Y (by first | exact Ba _ _ | exact Bi _ | rfl) ?_ | refine r_cv8 hG Y Y Y Y Y Y ?_ | refine r_cv_i64 hG Y Y Y Y Y (by omega) ?_ | refine Ca hG Y Y Y Y Y (by omega) ?_ | refine r_cvw hG Y Y Y Y Y ?_)
      | refine Bc hG Y Y Y ?_
      | refine Bn hG Y Y Y ?_
      | (show AOp _ _ ⟨_, .buildSlice _ _ _, _, _, _, _⟩ _ _ _; first | refine r_mk (sz := 1) hG Y Y Y Y Y Y Y ?_)
      | (show AOp _ _ ⟨_, .call ⟨.value _, _, _⟩, _, _, _, _⟩ _ _ _; first | refine B0 Y Y Y Y Y (by first | (apply h0 <;> (first | assumption | omega | exact Ba _ _ | exact Bi _ | exact Bk _ _ | exact Bs _ | rfl | (simp; omega))) | fail) ?_ | fail)
      | refine r_q hG Y Y Y ?_); try exact kk)
    | (show AL _ _ _ _ _ _ _ _; first | refine Bj Y Y Y ?_ | (refine Ar ?_; first | show AW _ _ _ _ _ _ | show ∃ x', _ < _ ∧ _)) | (show AW _ _ (.seq _ _) _ _ _; refine Ah ?_; intro Q1) | (show AW _ _ (.region _ _ false) _ _ _; refine Ad ?_; intro O1) | (show AW _ _ (.cond _ _ _) _ _ _; first | refine Ao Y ?_ | refine Ap Y ?_ | refine Bf Y (fun h => ?_) (fun h => ?_)) | (show AW _ _ (.skip) _ _ _; refine Aj ?_; first | show AW _ _ _ _ _ _ | show ∃ x', _ < _ ∧ _) | (show AW _ _ (.block _ _) _ _ _; refine Af ?_; intro Q1) | (show AW _ _ (.exit _) _ _ _; refine As ?_; first | show AW _ _ _ _ _ _ | show ∃ x', _ < _ ∧ _) | (show AW _ _ (.ret) _ _ _; refine Av ?_; try dsimp only [A3, Ac, A7, Ag])
    | (show DL _ _ _ _ _ _ _; refine Bt Y Y (fun K kt kf => Am hG Y Y Y Y Y kt kf) (fun h => ?_) (fun h => ?_)) | (show DL _ _ _ _ _ _ _; refine Bt Y Y (fun K kt kf => r_str hG Y Y Y Y kt kf) (fun h => ?_) (fun h => ?_)) | (show DL _ _ _ _ _ _ _; refine dl_ne Y Y (fun K kt kf => r_strn hG Y Y Y Y kt kf) (fun h => ?_) (fun h => ?_))
    | (show DL _ _ _ _ _ _ _; refine Bu Y Y Y ?_) | (show DL _ _ _ _ _ _ _; refine Bd ?_; first | show AW _ _ _ _ _ _ | show ∃ x', _ < _ ∧ _) | (show AW _ _ (.region _ _ true) _ _ _; refine Aw mix (by kernel_rfl) ?_; intro O1) | fail)
  refine Ae rfl (r_onL0 rfl rfl rfl rfl rfl (arena_New 1) ?_)
  rintro u L' ⟨pa, ma, rfl, rfl⟩
  refine Ae rfl (r_onL rfl rfl rfl rfl (Lf := arL 1 [] [] pa 0 ma) (.refl _) (arena_New 1) ?_)
  rintro u L' ⟨pb, mb, rfl, rfl⟩
  repeat' (first
    | ((first | (show AL _ _ _ _ _ _ _ _; refine Ae Y ?_) | (show DL _ _ _ _ _ _ _; refine' A6 Y Y (fun K kk => ?_) ?_; try (show Go.Ts.T; rotate_left))); (first
      | refine Aq hG Y Y ?_
      | refine A5 hG Y Y ?_
      | (show AOp _ _ ⟨_, .call ⟨.builtin .len, _, _⟩, _, _, _, _⟩ _ _ _; first | refine Br hG Y Y Y Y ?_ | refine Bx hG Y Y Y Y Y ?_)
      | (show AOp _ _ ⟨_, .binOp .add _ _ _ _, _, _, _, _⟩ _ _ _; first | refine Ab hG Y Y Y Y Y (by omega) ?_ | refine Ab (m := 1) hG Y Y Y Y Y (by omega) ?_ | refine Aa hG Y Y Y Y Y (by omega) ?_)
      | (show AOp _ _ ⟨_, .binOp .sub _ _ _ _, _, _, _, _⟩ _ _ _; first | refine Al hG Y Y Y Y (by omega) ?_ | refine Al (m := 1) hG Y Y Y Y (by omega) ?_ | refine r_subU (m := 1) hG Y Y Y Y (by omega) ?_ | refine Aa hG Y Y Y Y Y (by omega) ?_)
      | (show AOp _ _ ⟨_, .binOp .mul _ _ _ _, _, _, _, _⟩ _ _ _; first | refine Ab hG Y Y Y Y Y (by omega) ?_ | refine Ab (m := 1) hG Y Y Y Y Y (by omega) ?_ | refine Ab (m := 2) hG Y Y Y Y Y (by omega) ?_ | refine Ab (m := 3) hG Y Y Y Y Y (by omega) ?_ | refine Ab (n := 2) hG Y Y Y Y Y (by omega) ?_ | refine Aa hG Y Y Y Y Y (by omega) ?_)
      | (show AOp _ _ ⟨_, .binOp .rem _ _ _ _, _, _, _, _⟩ _ _ _; first | refine r_rem hG Y Y Y Y (by omega) ?_ | refine r_trem hG Y Y Y Y (by omega) ?_)
      | (show AOp _ _ ⟨_, .binOp _ _ _ _ _, _, _, _, _⟩ _ _ _; first | refine Au hG Y Y Y Y Y (by omega) ?_ | refine At hG Y Y Y Y Y (by omega) ?_ | refine r_strT hG Y Y Y Y (by first | rfl | assumption) ?_ | refine r_strnF hG Y Y Y Y (by first | rfl | assumption) ?_ | refine r_strF hG Y Y Y Y (by assumption) ?_ | refine r_strnT hG Y Y Y Y (by assumption) ?_ | ((fail_if_success have := kk); refine Am hG Y Y Y Y Y (fun h => ?_) (fun h => ?_)) | ((fail_if_success have := kk); first | refine r_str hG Y Y Y Y (fun h => ?_) (fun h => ?_) | refine r_strn hG Y Y Y Y (fun h => ?_) (fun h => ?_)) | refine Bv hG Y Y Y Y ?_)
      | (show AOp _ _ ⟨_, .load _ _, _, _, _, _⟩ _ _ _; first | refine A2 0 sbT hG Y Y Y Y Y (by omega) Y ?_ | refine A1 0 sbT hG Y Y Y Y Y (by omega) Y ?_ | refine A2 1 sbT hG Y Y Y Y Y (by omega) Y ?_ | refine A1 1 sbT hG Y Y Y Y Y (by omega) Y ?_ | refine A2 2 sbT hG Y Y Y Y Y (by omega) Y ?_ | refine A1 2 sbT hG Y Y Y Y Y (by omega) Y ?_ | refine A2 3 sbT hG Y Y Y Y Y (by omega) Y ?_ | refine A1 3 sbT hG Y Y Y Y Y (by omega) Y ?_ | refine Ak (α := UInt16) 0 hG Y Y Y Y (by omega) Y ?_ | refine Ak (α := UInt16) 1 hG Y Y Y Y (by omega) Y ?_ | refine Ay hG Y Y Y ?_ | refine A8 0 hG Y Y Y Y ?_)
      | (show AOp _ _ ⟨_, .indexAddr _ _ _, _, _, _, _⟩ _ _ _; first | refine Bw (sz := 4) hG Y Y Y Y Y Y Y (by omega) ?_ | refine A4 hG Y Y Y Y Y Y Y (by omega) ?_ | refine Az hG Y Y Y Y Y Y Y (by omega) ?_ | refine Ax hG Y Y Y Y Y Y Y (by omega) ?_ | refine Bb hG Y Y ?_)
      | (show AOp _ _ ⟨_, .convert _ _ _, _, _, _, _⟩ _ _ _; first | refine r_tostr hG Y Y Y Y Y Y Y Y (by first | exact Ba _ _ | exact Bi _ | rfl) ?_ | refine r_cv8 hG Y Y Y Y Y Y ?_ | refine r_cv_i64 hG Y Y Y Y Y (by omega) ?_ | refine Ca hG Y Y Y Y Y (by omega) ?_ | refine r_cvw hG Y Y Y Y Y ?_)
      | refine Bc hG Y Y Y ?_
      | refine Bn hG Y Y Y ?_
      | (show AOp _ _ ⟨_, .buildSlice _ _ _, _, _, _, _⟩ _ _ _; first | refine r_mk (sz := 1) hG Y Y Y Y Y Y Y ?_)
      | refine r_q hG Y Y Y ?_); try exact kk)
    | (show AL _ _ _ _ _ _ _ _; first | refine Bj Y Y Y ?_ | (refine Ar ?_; first | show AW _ _ _ _ _ _ | show ∃ x', _ < _ ∧ _)) | (show AW _ _ (.seq _ _) _ _ _; refine Ah ?_; intro Q1) | (show AW _ _ (.region _ _ false) _ _ _; refine Ad ?_; intro O1) | (show AW _ _ (.cond _ _ _) _ _ _; first | refine Ao Y ?_ | refine Ap Y ?_ | refine Bf Y (fun h => ?_) (fun h => ?_)) | (show AW _ _ (.skip) _ _ _; refine Aj ?_; first | show AW _ _ _ _ _ _ | show ∃ x', _ < _ ∧ _) | (show AW _ _ (.block _ _) _ _ _; refine Af ?_; intro Q1) | (show AW _ _ (.exit _) _ _ _; refine As ?_; first | show AW _ _ _ _ _ _ | show ∃ x', _ < _ ∧ _) | (show AW _ _ (.ret) _ _ _; refine Av ?_; try dsimp only [A3, Ac, A7, Ag])
    | (show DL _ _ _ _ _ _ _; refine Bt Y Y (fun K kt kf => Am hG Y Y Y Y Y kt kf) (fun h => ?_) (fun h => ?_)) | (show DL _ _ _ _ _ _ _; refine Bt Y Y (fun K kt kf => r_str hG Y Y Y Y kt kf) (fun h => ?_) (fun h => ?_)) | (show DL _ _ _ _ _ _ _; refine dl_ne Y Y (fun K kt kf => r_strn hG Y Y Y Y kt kf) (fun h => ?_) (fun h => ?_))
    | (show DL _ _ _ _ _ _ _; refine Bu Y Y Y ?_) | (show DL _ _ _ _ _ _ _; refine Bd ?_; first | show AW _ _ _ _ _ _ | show ∃ x', _ < _ ∧ _) | (show AW _ _ (.region _ _ true) _ _ _; refine Aw mix (by kernel_rfl) ?_; intro O1) | fail)
  rw [show ((n.toNat : Int) % (ls.length : Int)) = ((n.toNat % ls.length : Nat) : Int) from rfl]
  have hk : n.toNat % ls.length < ls.length := Nat.mod_lt _ (by omega)
  generalize n.toNat % ls.length = k at *
  refine aw_loop (X := OrX ls k) (fun x => [(0, sT ls), (5, .ptr pa 0), (6, .ptr pb 0), (7, .int .i64 (k : Int)), (8, .int .i64 (x.i : Int))]) (fun x => ⟨arL 1 x.lb x.ab pb x.rb mb ++ arL 1 x.la x.aa pa x.ra ma, [], off, none⟩) (fun x => ls.length - x.i) ⟨0, [], [], 0, [], [], 0, Nat.zero_le _, wfa_nil, wfa_nil, Nat.le_refl _, Nat.le_refl _, fun id => by simp [khas, kfind], fun id => by simp [khas, kfind], fun id h => by simp [khas, kfind] at h, fun id h => by simp [khas, kfind] at h, fun s h => by simp at h, fun s h => by simp at h, fun s h => by simp at h⟩ (by repeat (first | exact .nil _ | refine .cons rfl ?_)) (.refl _) ?_
  rintro ⟨i, la, aa, ra, lb, ab, rb, hi, wa, wb, na, nb, ha, hb, ga, gb, ta, sa, sb⟩
  dsimp only
  by_cases hil : i < ls.length
  · obtain ⟨x, hx⟩ : ∃ x, ls.getD i default = x := ⟨_, rfl⟩
    obtain ⟨y, hy⟩ : ∃ y, ls.getD ((i + k) % ls.length) default = y := ⟨_, rfl⟩
    have hml : (i + k) % ls.length < ls.length := Nat.mod_lt _ (by omega)
    have hy2 : ls.getD (((i + k : Nat) : Int) % (ls.length : Int)).toNat default = y := hy
    have hxn := x.toNat_lt
    have hyn := y.toNat_lt
    have cx : (List.map bT [1, x]) = [constT (Value.int IntKind.u8 1), bT x] := rfl
    have wa2 := put_wfa wa x.toNat (by omega) [1, x]
    have wb2 := put_wfa wb y.toNat (by omega) [1, 99]
    have wb3 := put_wfa wb2 y.toNat (by omega) [1, y]
    have hPa := (arena_Put_ok 1 la aa wa (id := x.toNat) (b := [1, x]) (by omega) (by simp) (by rfl) (by omega) pa ra ma).weak (wk3 (.refl _) (.refl _) (.own 1 .full _))
    have nb2 := put_len (l := lb) (at' := ab) y.toNat (by omega) [1, 99]
    have nb3 := put_len (l := putL lb ab y.toNat (by omega) [1, 99]) (at' := putA lb ab y.toNat) y.toNat (by omega) [1, y]
    have na2 := put_len (l := la) (at' := aa) x.toNat (by omega) [1, x]
    repeat' (first
    | ((first | (show AL _ _ _ _ _ _ _ _; refine Ae Y ?_) | (show DL _ _ _ _ _ _ _; refine' A6 Y Y (fun K kk => ?_) ?_; try (show Go.Ts.T; rotate_left))); (first
      | refine Aq hG Y Y ?_
      | refine A5 hG Y Y ?_
      | (show AOp _ _ ⟨_, .call ⟨.builtin .len, _, _⟩, _, _, _, _⟩ _ _ _; first | refine Br hG Y Y Y Y ?_ | refine Bx hG Y Y Y Y Y ?_)
      | (show AOp _ _ ⟨_, .binOp .add _ _ _ _, _, _, _, _⟩ _ _ _; first | refine Ab hG Y Y Y Y Y (by omega) ?_ | refine Ab (m := 1) hG Y Y Y Y Y (by omega) ?_ | refine Aa hG Y Y Y Y Y (by omega) ?_)
      | (show AOp _ _ ⟨_, .binOp .sub _ _ _ _, _, _, _, _⟩ _ _ _; first | refine Al hG Y Y Y Y (by omega) ?_ | refine Al (m := 1) hG Y Y Y Y (by omega) ?_ | refine r_subU (m := 1) hG Y Y Y Y (by omega) ?_ | refine Aa hG Y Y Y Y Y (by omega) ?_)
      | (show AOp _ _ ⟨_, .binOp .mul _ _ _ _, _, _, _, _⟩ _ _ _; first | refine Ab hG Y Y Y Y Y (by omega) ?_ | refine Ab (m := 1) hG Y Y Y Y Y (by omega) ?_ | refine Ab (m := 2) hG Y Y Y Y Y (by omega) ?_ | refine Ab (m := 3) hG Y Y Y Y Y (by omega) ?_ | refine Ab (n := 2) hG Y Y Y Y Y (by omega) ?_ | refine Aa hG Y Y Y Y Y (by omega) ?_)
      | (show AOp _ _ ⟨_, .binOp .rem _ _ _ _, _, _, _, _⟩ _ _ _; first | refine r_rem hG Y Y Y Y (by omega) ?_ | refine r_trem hG Y Y Y Y (by omega) ?_)
      | (show AOp _ _ ⟨_, .binOp _ _ _ _ _, _, _, _, _⟩ _ _ _; first | refine Au hG Y Y Y Y Y (by omega) ?_ | refine At hG Y Y Y Y Y (by omega) ?_ | refine r_strT hG Y Y Y Y (by first | rfl | assumption) ?_ | refine r_strnF hG Y Y Y Y (by first | rfl | assumption) ?_ | refine r_strF hG Y Y Y Y (by assumption) ?_ | refine r_strnT hG Y Y Y Y (by assumption) ?_ | ((fail_if_success have := kk); refine Am hG Y Y Y Y Y (fun h => ?_) (fun h => ?_)) | ((fail_if_success have := kk); first | refine r_str hG Y Y Y Y (fun h => ?_) (fun h => ?_) | refine r_strn hG Y Y Y Y (fun h => ?_) (fun h => ?_)) | refine Bv hG Y Y Y Y ?_)
      | (show AOp _ _ ⟨_, .load _ _, _, _, _, _⟩ _ _ _; first | refine A2 0 sbT hG Y Y Y Y Y (by omega) Y ?_ | refine A1 0 sbT hG Y Y Y Y Y (by omega) Y ?_ | refine A2 1 sbT hG Y Y Y Y Y (by omega) Y ?_ | refine A1 1 sbT hG Y Y Y Y Y (by omega) Y ?_ | refine A2 2 sbT hG Y Y Y Y Y (by omega) Y ?_ | refine A1 2 sbT hG Y Y Y Y Y (by omega) Y ?_ | refine A2 3 sbT hG Y Y Y Y Y (by omega) Y ?_ | refine A1 3 sbT hG Y Y Y Y Y (by omega) Y ?_ | refine Ak (α := UInt16) 0 hG Y Y Y Y (by omega) Y ?_ | refine Ak (α := UInt16) 1 hG Y Y Y Y (by omega) Y ?_ | refine Ay hG Y Y Y ?_ | refine A8 0 hG Y Y Y Y ?_)
      | (show AOp _ _ ⟨_, .indexAddr _ _ _, _, _, _, _⟩ _ _ _; first | refine Bw (sz := 4) hG Y Y Y Y Y Y Y (by omega) ?_ | refine A4 hG Y Y Y Y Y Y Y (by omega) ?_ | refine Az hG Y Y Y Y Y Y Y (by omega) ?_ | refine Ax hG Y Y Y Y Y Y Y (by omega) ?_ | refine Bb hG Y Y ?_)
      | (show AOp _ _ ⟨_, .convert _ _ _, _, _, _, _⟩ _ _ _; first | refine r_tostr hG Y Y Y Y Y Y Y Y (by first | exact Ba _ _ | exact Bi _ | rfl) ?_ | refine r_cv8 hG Y Y Y Y Y Y ?_ | refine r_cv_i64 hG Y Y Y Y Y (by omega) ?_ | refine Ca hG Y Y Y Y Y (by omega) ?_ | refine r_cvw hG Y Y Y Y Y ?_)
      | refine Bc hG Y Y Y ?_
      | refine Bn hG Y Y Y ?_
      | (show AOp _ _ ⟨_, .buildSlice _ _ _, _, _, _, _⟩ _ _ _; first | refine r_mk (sz := 1) hG Y Y Y Y Y Y Y ?_)
      | refine r_q hG Y Y Y ?_); try exact kk)
    | (show AL _ _ _ _ _ _ _ _; first | refine Bj Y Y Y ?_ | (refine Ar ?_; first | show AW _ _ _ _ _ _ | show ∃ x', _ < _ ∧ _)) | (show AW _ _ (.seq _ _) _ _ _; refine Ah ?_; intro Q1) | (show AW _ _ (.region _ _ false) _ _ _; refine Ad ?_; intro O1) | (show AW _ _ (.cond _ _ _) _ _ _; first | refine Ao Y ?_ | refine Ap Y ?_ | refine Bf Y (fun h => ?_) (fun h => ?_)) | (show AW _ _ (.skip) _ _ _; refine Aj ?_; first | show AW _ _ _ _ _ _ | show ∃ x', _ < _ ∧ _) | (show AW _ _ (.block _ _) _ _ _; refine Af ?_; intro Q1) | (show AW _ _ (.exit _) _ _ _; refine As ?_; first | show AW _ _ _ _ _ _ | show ∃ x', _ < _ ∧ _) | (show AW _ _ (.ret) _ _ _; refine Av ?_; try dsimp only [A3, Ac, A7, Ag])
    | (show DL _ _ _ _ _ _ _; refine Bt Y Y (fun K kt kf => Am hG Y Y Y Y Y kt kf) (fun h => ?_) (fun h => ?_)) | (show DL _ _ _ _ _ _ _; refine Bt Y Y (fun K kt kf => r_str hG Y Y Y Y kt kf) (fun h => ?_) (fun h => ?_)) | (show DL _ _ _ _ _ _ _; refine dl_ne Y Y (fun K kt kf => r_strn hG Y Y Y Y kt kf) (fun h => ?_) (fun h => ?_))
    | (show DL _ _ _ _ _ _ _; refine Bu Y Y Y ?_) | (show DL _ _ _ _ _ _ _; refine Bd ?_; first | show AW _ _ _ _ _ _ | show ∃ x', _ < _ ∧ _) | (show AW _ _ (.region _ _ true) _ _ _; refine Aw mix (by kernel_rfl) ?_; intro O1) | fail)
    rw [hx, hy2]
    refine Ae rfl (r_onL rfl rfl rfl rfl List.perm_append_comm hPa ?_)
    rintro u L' ⟨ra', rfl, rfl⟩
    repeat' (first
    | ((first | (show AL _ _ _ _ _ _ _ _; refine Ae Y ?_) | (show DL _ _ _ _ _ _ _; refine' A6 Y Y (fun K kk => ?_) ?_; try (show Go.Ts.T; rotate_left))); (first
      | refine Aq hG Y Y ?_
      | refine A5 hG Y Y ?_
      | (show AOp _ _ ⟨_, .call ⟨.builtin .len, _, _⟩, _, _, _, _⟩ _ _ _; first | refine Br hG Y Y Y Y ?_ | refine Bx hG Y Y Y Y Y ?_)
      | (show AOp _ _ ⟨_, .binOp .add _ _ _ _, _, _, _, _⟩ _ _ _; first | refine Ab hG Y Y Y Y Y (by omega) ?_ | refine Ab (m := 1) hG Y Y Y Y Y (by omega) ?_ | refine Aa hG Y Y Y Y Y (by omega) ?_)
      | (show AOp _ _ ⟨_, .binOp .sub _ _ _ _, _, _, _, _⟩ _ _ _; first | refine Al hG Y Y Y Y (by omega) ?_ | refine Al (m := 1) hG Y Y Y Y (by omega) ?_ | refine r_subU (m := 1) hG Y Y Y Y (by omega) ?_ | refine Aa hG Y Y Y Y Y (by omega) ?_)
      | (show AOp _ _ ⟨_, .binOp .mul _ _ _ _, _, _, _, _⟩ _ _ _; first | refine Ab hG Y Y Y Y Y (by omega) ?_ | refine Ab (m := 1) hG Y Y Y Y Y (by omega) ?_ | refine Ab (m := 2) hG Y Y Y Y Y (by omega) ?_ | refine Ab (m := 3) hG Y Y Y Y Y (by omega) ?_ | refine Ab (n := 2) hG Y Y Y Y Y (by omega) ?_ | refine Aa hG Y Y Y Y Y (by omega) ?_)
      | (show AOp _ _ ⟨_, .binOp .rem _ _ _ _, _, _, _, _⟩ _ _ _; first | refine r_rem hG Y Y Y Y (by omega) ?_ | refine r_trem hG Y Y Y Y (by omega) ?_)
      | (show AOp _ _ ⟨_, .binOp _ _ _ _ _, _, _, _, _⟩ _ _ _; first | refine Au hG Y Y Y Y Y (by omega) ?_ | refine At hG Y Y Y Y Y (by omega) ?_ | refine r_strT hG Y Y Y Y (by first | rfl | assumption) ?_ | refine r_strnF hG Y Y Y Y (by first | rfl | assumption) ?_ | refine r_strF hG Y Y Y Y (by assumption) ?_ | refine r_strnT hG Y Y Y Y (by assumption) ?_ | ((fail_if_success have := kk); refine Am hG Y Y Y Y Y (fun h => ?_) (fun h => ?_)) | ((fail_if_success have := kk); first | refine r_str hG Y Y Y Y (fun h => ?_) (fun h => ?_) | refine r_strn hG Y Y Y Y (fun h => ?_) (fun h => ?_)) | refine Bv hG Y Y Y Y ?_)
      | (show AOp _ _ ⟨_, .load _ _, _, _, _, _⟩ _ _ _; first | refine A2 0 sbT hG Y Y Y Y Y (by omega) Y ?_ | refine A1 0 sbT hG Y Y Y Y Y (by omega) Y ?_ | refine A2 1 sbT hG Y Y Y Y Y (by omega) Y ?_ | refine A1 1 sbT hG Y Y Y Y Y (by omega) Y ?_ | refine A2 2 sbT hG Y Y Y Y Y (by omega) Y ?_ | refine A1 2 sbT hG Y Y Y Y Y (by omega) Y ?_ | refine A2 3 sbT hG Y Y Y Y Y (by omega) Y ?_ | refine A1 3 sbT hG Y Y Y Y Y (by omega) Y ?_ | refine Ak (α := UInt16) 0 hG Y Y Y Y (by omega) Y ?_ | refine Ak (α := UInt16) 1 hG Y Y Y Y (by omega) Y ?_ | refine Ay hG Y Y Y ?_ | refine A8 0 hG Y Y Y Y ?_)
      | (show AOp _ _ ⟨_, .indexAddr _ _ _, _, _, _, _⟩ _ _ _; first | refine Bw (sz := 4) hG Y Y Y Y Y Y Y (by omega) ?_ | refine A4 hG Y Y Y Y Y Y Y (by omega) ?_ | refine Az hG Y Y Y Y Y Y Y (by omega) ?_ | refine Ax hG Y Y Y Y Y Y Y (by omega) ?_ | refine Bb hG Y Y ?_)
      | (show AOp _ _ ⟨_, .convert _ _ _, _, _, _, _⟩ _ _ _; first | refine r_tostr hG Y Y Y Y Y Y Y Y (by first | exact Ba _ _ | exact Bi _ | rfl) ?_ | refine r_cv8 hG Y Y Y Y Y Y ?_ | refine r_cv_i64 hG Y Y Y Y Y (by omega) ?_ | refine Ca hG Y Y Y Y Y (by omega) ?_ | refine r_cvw hG Y Y Y Y Y ?_)
      | refine Bc hG Y Y Y ?_
      | refine Bn hG Y Y Y ?_
      | (show AOp _ _ ⟨_, .buildSlice _ _ _, _, _, _, _⟩ _ _ _; first | refine r_mk (sz := 1) hG Y Y Y Y Y Y Y ?_)
      | refine r_q hG Y Y Y ?_); try exact kk)
    | (show AL _ _ _ _ _ _ _ _; first | refine Bj Y Y Y ?_ | (refine Ar ?_; first | show AW _ _ _ _ _ _ | show ∃ x', _ < _ ∧ _)) | (show AW _ _ (.seq _ _) _ _ _; refine Ah ?_; intro Q1) | (show AW _ _ (.region _ _ false) _ _ _; refine Ad ?_; intro O1) | (show AW _ _ (.cond _ _ _) _ _ _; first | refine Ao Y ?_ | refine Ap Y ?_ | refine Bf Y (fun h => ?_) (fun h => ?_)) | (show AW _ _ (.skip) _ _ _; refine Aj ?_; first | show AW _ _ _ _ _ _ | show ∃ x', _ < _ ∧ _) | (show AW _ _ (.block _ _) _ _ _; refine Af ?_; intro Q1) | (show AW _ _ (.exit _) _ _ _; refine As ?_; first | show AW _ _ _ _ _ _ | show ∃ x', _ < _ ∧ _) | (show AW _ _ (.ret) _ _ _; refine Av ?_; try dsimp only [A3, Ac, A7, Ag])
    | (show DL _ _ _ _ _ _ _; refine Bt Y Y (fun K kt kf => Am hG Y Y Y Y Y kt kf) (fun h => ?_) (fun h => ?_)) | (show DL _ _ _ _ _ _ _; refine Bt Y Y (fun K kt kf => r_str hG Y Y Y Y kt kf) (fun h => ?_) (fun h => ?_)) | (show DL _ _ _ _ _ _ _; refine dl_ne Y Y (fun K kt kf => r_strn hG Y Y Y Y kt kf) (fun h => ?_) (fun h => ?_))
    | (show DL _ _ _ _ _ _ _; refine Bu Y Y Y ?_) | (show DL _ _ _ _ _ _ _; refine Bd ?_; first | show AW _ _ _ _ _ _ | show ∃ x', _ < _ ∧ _) | (show AW _ _ (.region _ _ true) _ _ _; refine Aw mix (by kernel_rfl) ?_; intro O1) | fail)
    have hPb := (arena_Put_ok 1 lb ab wb (id := y.toNat) (b := [1, 99]) (by omega) (by decide) (by rfl) (by omega) pb rb mb).weak (wk3 (.refl _) (.refl _) (.own 1 .full _))
    refine Ae rfl (r_onL rfl rfl rfl rfl List.perm_append_comm hPb ?_)
    rintro u L' ⟨rb', rfl, rfl⟩
    repeat' (first
    | ((first | (show AL _ _ _ _ _ _ _ _; refine Ae Y ?_) | (show DL _ _ _ _ _ _ _; refine' A6 Y Y (fun K kk => ?_) ?_; try (show Go.Ts.T; rotate_left))); (first
      | refine Aq hG Y Y ?_
      | refine A5 hG Y Y ?_
      | (show AOp _ _ ⟨_, .call ⟨.builtin .len, _, _⟩, _, _, _, _⟩ _ _ _; first | refine Br hG Y Y Y Y ?_ | refine Bx hG Y Y Y Y Y ?_)
      | (show AOp _ _ ⟨_, .binOp .add _ _ _ _, _, _, _, _⟩ _ _ _; first | refine Ab hG Y Y Y Y Y (by omega) ?_ | refine Ab (m := 1) hG Y Y Y Y Y (by omega) ?_ | refine Aa hG Y Y Y Y Y (by omega) ?_)
      | (show AOp _ _ ⟨_, .binOp .sub _ _ _ _, _, _, _, _⟩ _ _ _; first | refine Al hG Y Y Y Y (by omega) ?_ | refine Al (m := 1) hG Y Y Y Y (by omega) ?_ | refine r_subU (m := 1) hG Y Y Y Y (by omega) ?_ | refine Aa hG Y Y Y Y Y (by omega) ?_)
      | (show AOp _ _ ⟨_, .binOp .mul _ _ _ _, _, _, _, _⟩ _ _ _; first | refine Ab hG Y Y Y Y Y (by omega) ?_ | refine Ab (m := 1) hG Y Y Y Y Y (by omega) ?_ | refine Ab (m := 2) hG Y Y Y Y Y (by omega) ?_ | refine Ab (m := 3) hG Y Y Y Y Y (by omega) ?_ | refine Ab (n := 2) hG Y Y Y Y Y (by omega) ?_ | refine Aa hG Y Y Y Y Y (by omega) ?_)
      | (show AOp _ _ ⟨_, .binOp .rem _ _ _ _, _, _, _, _⟩ _ _ _; first | refine r_rem hG Y Y Y Y (by omega) ?_ | refine r_trem hG Y Y Y Y (by omega) ?_)
      | (show AOp _ _ ⟨_, .binOp _ _ _ _ _, _, _, _, _⟩ _ _ _; first | refine Au hG Y Y Y Y Y (by omega) ?_ | refine At hG Y Y Y Y Y (by omega) ?_ | refine r_strT hG Y Y Y Y (by first | rfl | assumption) ?_ | refine r_strnF hG Y Y Y Y (by first | rfl | assumption) ?_ | refine r_strF hG Y Y Y Y (by assumption) ?_ | refine r_strnT hG Y Y Y Y (by assumption) ?_ | ((fail_if_success have := kk); refine Am hG Y Y Y Y Y (fun h => ?_) (fun h => ?_)) | ((fail_if_success have := kk); first | refine r_str hG Y Y Y Y (fun h => ?_) (fun h => ?_) | refine r_strn hG Y Y Y Y (fun h => ?_) (fun h => ?_)) | refine Bv hG Y Y Y Y ?_)
      | (show AOp _ _ ⟨_, .load _ _, _, _, _, _⟩ _ _ _; first | refine A2 0 sbT hG Y Y Y Y Y (by omega) Y ?_ | refine A1 0 sbT hG Y Y Y Y Y (by omega) Y ?_ | refine A2 1 sbT hG Y Y Y Y Y (by omega) Y ?_ | refine A1 1 sbT hG Y Y Y Y Y (by omega) Y ?_ | refine A2 2 sbT hG Y Y Y Y Y (by omega) Y ?_ | refine A1 2 sbT hG Y Y Y Y Y (by omega) Y ?_ | refine A2 3 sbT hG Y Y Y Y Y (by omega) Y ?_ | refine A1 3 sbT hG Y Y Y Y Y (by omega) Y ?_ | refine Ak (α := UInt16) 0 hG Y Y Y Y (by omega) Y ?_ | refine Ak (α := UInt16) 1 hG Y Y Y Y (by omega) Y ?_ | refine Ay hG Y Y Y ?_ | refine A8 0 hG Y Y Y Y ?_)
      | (show AOp _ _ ⟨_, .indexAddr _ _ _, _, _, _, _⟩ _ _ _; first | refine Bw (sz := 4) hG Y Y Y Y Y Y Y (by omega) ?_ | refine A4 hG Y Y Y Y Y Y Y (by omega) ?_ | refine Az hG Y Y Y Y Y Y Y (by omega) ?_ | refine Ax hG Y Y Y Y Y Y Y (by omega) ?_ | refine Bb hG Y Y ?_)
      | (show AOp _ _ ⟨_, .convert _ _ _, _, _, _, _⟩ _ _ _; first | refine r_tostr hG Y Y Y Y Y Y Y Y (by first | exact Ba _ _ | exact Bi _ | rfl) ?_ | refine r_cv8 hG Y Y Y Y Y Y ?_ | refine r_cv_i64 hG Y Y Y Y Y (by omega) ?_ | refine Ca hG Y Y Y Y Y (by omega) ?_ | refine r_cvw hG Y Y Y Y Y ?_)
      | refine Bc hG Y Y Y ?_
      | refine Bn hG Y Y Y ?_
      | (show AOp _ _ ⟨_, .buildSlice _ _ _, _, _, _, _⟩ _ _ _; first | refine r_mk (sz := 1) hG Y Y Y Y Y Y Y ?_)
      | refine r_q hG Y Y Y ?_); try exact kk)
    | (show AL _ _ _ _ _ _ _ _; first | refine Bj Y Y Y ?_ | (refine Ar ?_; first | show AW _ _ _ _ _ _ | show ∃ x', _ < _ ∧ _)) | (show AW _ _ (.seq _ _) _ _ _; refine Ah ?_; intro Q1) | (show AW _ _ (.region _ _ false) _ _ _; refine Ad ?_; intro O1) | (show AW _ _ (.cond _ _ _) _ _ _; first | refine Ao Y ?_ | refine Ap Y ?_ | refine Bf Y (fun h => ?_) (fun h => ?_)) | (show AW _ _ (.skip) _ _ _; refine Aj ?_; first | show AW _ _ _ _ _ _ | show ∃ x', _ < _ ∧ _) | (show AW _ _ (.block _ _) _ _ _; refine Af ?_; intro Q1) | (show AW _ _ (.exit _) _ _ _; refine As ?_; first | show AW _ _ _ _ _ _ | show ∃ x', _ < _ ∧ _) | (show AW _ _ (.ret) _ _ _; refine Av ?_; try dsimp only [A3, Ac, A7, Ag])
    | (show DL _ _ _ _ _ _ _; refine Bt Y Y (fun K kt kf => Am hG Y Y Y Y Y kt kf) (fun h => ?_) (fun h => ?_)) | (show DL _ _ _ _ _ _ _; refine Bt Y Y (fun K kt kf => r_str hG Y Y Y Y kt kf) (fun h => ?_) (fun h => ?_)) | (show DL _ _ _ _ _ _ _; refine dl_ne Y Y (fun K kt kf => r_strn hG Y Y Y Y kt kf) (fun h => ?_) (fun h => ?_))
    | (show DL _ _ _ _ _ _ _; refine Bu Y Y Y ?_) | (show DL _ _ _ _ _ _ _; refine Bd ?_; first | show AW _ _ _ _ _ _ | show ∃ x', _ < _ ∧ _) | (show AW _ _ (.region _ _ true) _ _ _; refine Aw mix (by kernel_rfl) ?_; intro O1) | fail)
    have hPc := (arena_Put_ok 1 _ _ wb2 (id := y.toNat) (b := [1, y]) (by omega) (by simp) (by rfl) (by omega) pb rb' mb).weak (wk3 (.refl _) (.refl _) (.own 1 .full _))
    refine Ae rfl (r_onL rfl rfl rfl rfl (List.Perm.refl _) hPc ?_)
    rintro u L' ⟨rb'', rfl, rfl⟩
    repeat' (first
    | ((first | (show AL _ _ _ _ _ _ _ _; refine Ae Y ?_) | (show DL _ _ _ _ _ _ _; refine' A6 Y Y (fun K kk => ?_) ?_; try (show Go.Ts.T; rotate_left))); (first
      | refine Aq hG Y Y ?_
      | refine A5 hG Y Y ?_
      | (show AOp _ _ ⟨_, .call ⟨.builtin .len, _, _⟩, _, _, _, _⟩ _ _ _; first | refine Br hG Y Y Y Y ?_ | refine Bx hG Y Y Y Y Y ?_)
      | (show AOp _ _ ⟨_, .binOp .add _ _ _ _, _, _, _, _⟩ _ _ _; first | refine Ab hG Y Y Y Y Y (by omega) ?_ | refine Ab (m := 1) hG Y Y Y Y Y (by omega) ?_ | refine Aa hG Y Y Y Y Y (by omega) ?_)
      | (show AOp _ _ ⟨_, .binOp .sub _ _ _ _, _, _, _, _⟩ _ _ _; first | refine Al hG Y Y Y Y (by omega) ?_ | refine Al (m := 1) hG Y Y Y Y (by omega) ?_ | refine r_subU (m := 1) hG Y Y Y Y (by omega) ?_ | refine Aa hG Y Y Y Y Y (by omega) ?_)
      | (show AOp _ _ ⟨_, .binOp .mul _ _ _ _, _, _, _, _⟩ _ _ _; first | refine Ab hG Y Y Y Y Y (by omega) ?_ | refine Ab (m := 1) hG Y Y Y Y Y (by omega) ?_ | refine Ab (m := 2) hG Y Y Y Y Y (by omega) ?_ | refine Ab (m := 3) hG Y Y Y Y Y (by omega) ?_ | refine Ab (n := 2) hG Y Y Y Y Y (by omega) ?_ | refine Aa hG Y Y Y Y Y (by omega) ?_)
      | (show AOp _ _ ⟨_, .binOp .rem _ _ _ _, _, _, _, _⟩ _ _ _; first | refine r_rem hG Y Y Y Y (by omega) ?_ | refine r_trem hG Y Y Y Y (by omega) ?_)
      | (show AOp _ _ ⟨_, .binOp _ _ _ _ _, _, _, _, _⟩ _ _ _; first | refine Au hG Y Y Y Y Y (by omega) ?_ | refine At hG Y Y Y Y Y (by omega) ?_ | refine r_strT hG Y Y Y Y (by first | rfl | assumption) ?_ | refine r_strnF hG Y Y Y Y (by first | rfl | assumption) ?_ | refine r_strF hG Y Y Y Y (by assumption) ?_ | refine r_strnT hG Y Y Y Y (by assumption) ?_ | ((fail_if_success have := kk); refine Am hG Y Y Y Y Y (fun h => ?_) (fun h => ?_)) | ((fail_if_success have := kk); first | refine r_str hG Y Y Y Y (fun h => ?_) (fun h => ?_) | refine r_strn hG Y Y Y Y (fun h => ?_) (fun h => ?_)) | refine Bv hG Y Y Y Y ?_)
      | (show AOp _ _ ⟨_, .load _ _, _, _, _, _⟩ _ _ _; first | refine A2 0 sbT hG Y Y Y Y Y (by omega) Y ?_ | refine A1 0 sbT hG Y Y Y Y Y (by omega) Y ?_ | refine A2 1 sbT hG Y Y Y Y Y (by omega) Y ?_ | refine A1 1 sbT hG Y Y Y Y Y (by omega) Y ?_ | refine A2 2 sbT hG Y Y Y Y Y (by omega) Y ?_ | refine A1 2 sbT hG Y Y Y Y Y (by omega) Y ?_ | refine A2 3 sbT hG Y Y Y Y Y (by omega) Y ?_ | refine A1 3 sbT hG Y Y Y Y Y (by omega) Y ?_ | refine Ak (α := UInt16) 0 hG Y Y Y Y (by omega) Y ?_ | refine Ak (α := UInt16) 1 hG Y Y Y Y (by omega) Y ?_ | refine Ay hG Y Y Y ?_ | refine A8 0 hG Y Y Y Y ?_)
      | (show AOp _ _ ⟨_, .indexAddr _ _ _, _, _, _, _⟩ _ _ _; first | refine Bw (sz := 4) hG Y Y Y Y Y Y Y (by omega) ?_ | refine A4 hG Y Y Y Y Y Y Y (by omega) ?_ | refine Az hG Y Y Y Y Y Y Y (by omega) ?_ | refine Ax hG Y Y Y Y Y Y Y (by omega) ?_ | refine Bb hG Y Y ?_)
      | (show AOp _ _ ⟨_, .convert _ _ _, _, _, _, _⟩ _ _ _; first | refine r_tostr hG Y Y Y Y Y Y Y Y (by first | exact Ba _ _ | exact Bi _ | rfl) ?_ | refine r_cv8 hG Y Y Y Y Y Y ?_ | refine r_cv_i64 hG Y Y Y Y Y (by omega) ?_ | refine Ca hG Y Y Y Y Y (by omega) ?_ | refine r_cvw hG Y Y Y Y Y ?_)
      | refine Bc hG Y Y Y ?_
      | refine Bn hG Y Y Y ?_
      | (show AOp _ _ ⟨_, .buildSlice _ _ _, _, _, _, _⟩ _ _ _; first | refine r_mk (sz := 1) hG Y Y Y Y Y Y Y ?_)
      | refine r_q hG Y Y Y ?_); try exact kk)
    | (show AL _ _ _ _ _ _ _ _; first | refine Bj Y Y Y ?_ | (refine Ar ?_; first | show AW _ _ _ _ _ _ | show ∃ x', _ < _ ∧ _)) | (show AW _ _ (.seq _ _) _ _ _; refine Ah ?_; intro Q1) | (show AW _ _ (.region _ _ false) _ _ _; refine Ad ?_; intro O1) | (show AW _ _ (.cond _ _ _) _ _ _; first | refine Ao Y ?_ | refine Ap Y ?_ | refine Bf Y (fun h => ?_) (fun h => ?_)) | (show AW _ _ (.skip) _ _ _; refine Aj ?_; first | show AW _ _ _ _ _ _ | show ∃ x', _ < _ ∧ _) | (show AW _ _ (.block _ _) _ _ _; refine Af ?_; intro Q1) | (show AW _ _ (.exit _) _ _ _; refine As ?_; first | show AW _ _ _ _ _ _ | show ∃ x', _ < _ ∧ _) | (show AW _ _ (.ret) _ _ _; refine Av ?_; try dsimp only [A3, Ac, A7, Ag])
    | (show DL _ _ _ _ _ _ _; refine Bt Y Y (fun K kt kf => Am hG Y Y Y Y Y kt kf) (fun h => ?_) (fun h => ?_)) | (show DL _ _ _ _ _ _ _; refine Bt Y Y (fun K kt kf => r_str hG Y Y Y Y kt kf) (fun h => ?_) (fun h => ?_)) | (show DL _ _ _ _ _ _ _; refine dl_ne Y Y (fun K kt kf => r_strn hG Y Y Y Y kt kf) (fun h => ?_) (fun h => ?_))
    | (show DL _ _ _ _ _ _ _; refine Bu Y Y Y ?_) | (show DL _ _ _ _ _ _ _; refine Bd ?_; first | show AW _ _ _ _ _ _ | show ∃ x', _ < _ ∧ _) | (show AW _ _ (.region _ _ true) _ _ _; refine Aw mix (by kernel_rfl) ?_; intro O1) | fail)
    refine ⟨⟨i + 1, _, _, ra', _, _, rb'', by omega, wa2, wb3, by omega, by omega, fun id => ?_, fun id => ?_, fun id h => ?_, fun id h => ?_, ?_, ?_, ?_⟩, by dsimp only; omega, (by repeat (first | exact .nil _ | refine .cons rfl ?_)), .refl _⟩
    · rw [put_has, Bool.or_eq_true, decide_eq_true_eq, ha, ex_succ, hx]
      exact ⟨fun h => h.elim (fun h => .inl h.symm) .inr, fun h => h.elim (fun h => .inl h.symm) .inr⟩
    · rw [put_has, put_has, Bool.or_eq_true, Bool.or_eq_true, decide_eq_true_eq, hb, ex_succ (f := fun j => (ls.getD ((j + k) % ls.length) default).toNat), hy]
      exact ⟨fun h => h.elim (fun h => .inl h.symm) (fun h => h.elim (fun h => .inl h.symm) .inr), fun h => h.elim (fun h => .inl h.symm) (fun h => .inr (.inr h))⟩
    · rw [put_has, Bool.or_eq_true, decide_eq_true_eq] at h
      rw [put_rec wa _ _ _ _ h.symm]
      by_cases e : id = x.toNat
      · rw [if_pos e, e, UInt8.ofNat_toNat]
      · rw [if_neg e]; exact ga id (h.resolve_left e)
    · rw [put_has, Bool.or_eq_true, decide_eq_true_eq] at h
      rw [put_rec wb2 _ _ _ _ h.symm]
      by_cases e : id = y.toNat
      · rw [if_pos e, e, UInt8.ofNat_toNat]
      · have h2 := h.resolve_left e
        rw [put_has, Bool.or_eq_true, decide_eq_true_eq] at h2
        rw [if_neg e, put_rec wb _ _ _ _ h2.symm, if_neg e]
        exact gb id (h2.resolve_left e)
    · exact put_all (fun s => s.taken = true → s.bs.length = 2) _ _ _ (fun h => by cases h) (fun s _ => rfl) ta
    · exact put_all (fun s => s.bs.length ≤ 60000) _ _ _ (by decide) (fun s => by show ([1, x] : List UInt8).length ≤ _; simp) sa
    · exact put_all (fun s => s.bs.length ≤ 60000) _ _ _ (by decide) (fun s => by show ([1, y] : List UInt8).length ≤ _; simp) (put_all (fun s => s.bs.length ≤ 60000) _ _ _ (by decide) (fun s => by show ([1, 99] : List UInt8).length ≤ _; simp) sb)
  · obtain rfl : i = ls.length := by omega
    have hks : ∀ id, khas aa id = khas ab id := fun id => by
      have : khas aa id = true ↔ khas ab id = true := by
        rw [ha, hb]
        constructor
        · rintro ⟨j, h1, h2⟩
          refine ⟨(j + (ls.length - k)) % ls.length, Nat.mod_lt _ (by omega), ?_⟩
          rw [Nat.mod_add_mod, show j + (ls.length - k) + k = j + ls.length by omega, Nat.add_mod_right, Nat.mod_eq_of_lt h1]
          exact h2
        · rintro ⟨j, h1, h2⟩
          exact ⟨(j + k) % ls.length, Nat.mod_lt _ (by omega), h2⟩
      cases h1 : khas aa id <;> cases h2 : khas ab id <;> simp [h1, h2] at this <;> rfl
    have hid := ids_ext wa wb hks
    have hby : bytesA lb ab = bytesA la aa := (bytes_ext hid (fun id h => by
      rw [ga id ((ids_mem wa id).1 h), gb id (by rw [← hks]; exact (ids_mem wa id).1 h)])).symm
    have hsz := size_two ta
    have hnl : (idsA la).length = (namesOf la).length := srtL_len _
    have hup := ids_up wa
    have hpos : 0 < (idsA la).length := List.length_pos_of_mem ((ids_mem wa ((ls.getD 0 default).toNat)).2 ((ha _).2 ⟨0, by omega, rfl⟩))
    have hrl := idsA_len la
    have hI := And.intro (arena_IDs 1 la aa (by omega) pa ra ma) (List.perm_append_comm (l₁ := arL 1 lb ab pb rb mb) (l₂ := arL 1 la aa pa ra ma))
    have hBa := And.intro (arena_Bytes 1 la aa (by omega) sa (ids_where wa) pa ra ma) (List.perm_append_comm (l₁ := arL 1 lb ab pb rb mb) (l₂ := arL 1 la aa pa ra ma))
    have hBb := And.intro (arena_Bytes 1 lb ab (by omega) sb (ids_where wb) pb rb mb) (List.Perm.refl (arL 1 lb ab pb rb mb ++ arL 1 la aa pa ra ma))
    have hS := And.intro (arena_Size 1 la aa (by omega) (fun s h => by have := sa s h; omega) pa ra ma) (List.perm_append_comm (l₁ := arL 1 lb ab pb rb mb) (l₂ := arL 1 la aa pa ra ma))
    rw [hby] at hBb
    have hbl : (bytesA la aa).length ≤ 4294967296 := by
      have := foldB_len (at' := aa) sa (idsA la) []
      unfold bytesA
      simp only [List.length_nil] at this; omega
    generalize bytesA la aa = by' at *
    generalize sizeA la = sz at *
    generalize idsA la = ids at *
    repeat' (first
    | ((first | (show AL _ _ _ _ _ _ _ _; refine Ae Y ?_) | (show DL _ _ _ _ _ _ _; refine' A6 Y Y (fun K kk => ?_) ?_; try (show Go.Ts.T; rotate_left))); (first
      | refine Aq hG Y Y ?_
      | refine A5 hG Y Y ?_
      | (show AOp _ _ ⟨_, .call ⟨.builtin .len, _, _⟩, _, _, _, _⟩ _ _ _; first | refine Br hG Y Y Y Y ?_ | refine Bx hG Y Y Y Y Y ?_)
      | (show AOp _ _ ⟨_, .binOp .add _ _ _ _, _, _, _, _⟩ _ _ _; first | refine Ab hG Y Y Y Y Y (by omega) ?_ | refine Ab (m := 1) hG Y Y Y Y Y (by omega) ?_ | refine Aa hG Y Y Y Y Y (by omega) ?_)
      | (show AOp _ _ ⟨_, .binOp .sub _ _ _ _, _, _, _, _⟩ _ _ _; first | refine Al hG Y Y Y Y (by omega) ?_ | refine Al (m := 1) hG Y Y Y Y (by omega) ?_ | refine r_subU (m := 1) hG Y Y Y Y (by omega) ?_ | refine Aa hG Y Y Y Y Y (by omega) ?_)
      | (show AOp _ _ ⟨_, .binOp .mul _ _ _ _, _, _, _, _⟩ _ _ _; first | refine Ab hG Y Y Y Y Y (by omega) ?_ | refine Ab (m := 1) hG Y Y Y Y Y (by omega) ?_ | refine Ab (m := 2) hG Y Y Y Y Y (by omega) ?_ | refine Ab (m := 3) hG Y Y Y Y Y (by omega) ?_ | refine Ab (n := 2) hG Y Y Y Y Y (by omega) ?_ | refine Aa hG Y Y Y Y Y (by omega) ?_)
      | (show AOp _ _ ⟨_, .binOp .rem _ _ _ _, _, _, _, _⟩ _ _ _; first | refine r_rem hG Y Y Y Y (by omega) ?_ | refine r_trem hG Y Y Y Y (by omega) ?_)
      | (show AOp _ _ ⟨_, .binOp _ _ _ _ _, _, _, _, _⟩ _ _ _; first | refine Au hG Y Y Y Y Y (by omega) ?_ | refine At hG Y Y Y Y Y (by omega) ?_ | refine r_strT hG Y Y Y Y (by first | rfl | assumption) ?_ | refine r_strnF hG Y Y Y Y (by first | rfl | assumption) ?_ | refine r_strF hG Y Y Y Y (by assumption) ?_ | refine r_strnT hG Y Y Y Y (by assumption) ?_ | ((fail_if_success have := kk); refine Am hG Y Y Y Y Y (fun h => ?_) (fun h => ?_)) | ((fail_if_success have := kk); first | refine r_str hG Y Y Y Y (fun h => ?_) (fun h => ?_) | refine r_strn hG Y Y Y Y (fun h => ?_) (fun h => ?_)) | refine Bv hG Y Y Y Y ?_)
      | (show AOp _ _ ⟨_, .load _ _, _, _, _, _⟩ _ _ _; first | refine A2 0 sbT hG Y Y Y Y Y (by omega) Y ?_ | refine A1 0 sbT hG Y Y Y Y Y (by omega) Y ?_ | refine A2 1 sbT hG Y Y Y Y Y (by omega) Y ?_ | refine A1 1 sbT hG Y Y Y Y Y (by omega) Y ?_ | refine A2 2 sbT hG Y Y Y Y Y (by omega) Y ?_ | refine A1 2 sbT hG Y Y Y Y Y (by omega) Y ?_ | refine A2 3 sbT hG Y Y Y Y Y (by omega) Y ?_ | refine A1 3 sbT hG Y Y Y Y Y (by omega) Y ?_ | refine Ak (α := UInt16) 0 hG Y Y Y Y (by omega) Y ?_ | refine Ak (α := UInt16) 1 hG Y Y Y Y (by omega) Y ?_ | refine Ay hG Y Y Y ?_ | refine A8 0 hG Y Y Y Y ?_)
      | (show AOp _ _ ⟨_, .indexAddr _ _ _, _, _, _, _⟩ _ _ _; first | refine Bw (sz := 4) hG Y Y Y Y Y Y Y (by omega) ?_ | refine A4 hG Y Y Y Y Y Y Y (by omega) ?_ | refine Az hG Y Y Y Y Y Y Y (by omega) ?_ | refine Ax hG Y Y Y Y Y Y Y (by omega) ?_ | refine Bb hG Y Y ?_)
      | (show AOp _ _ ⟨_, .convert _ _ _, _, _, _, _⟩ _ _ _; first | refine r_tostr hG Y Y Y Y Y Y Y Y (by first | exact Ba _ _ | exact Bi _ | rfl) ?_ | refine r_cv8 hG Y Y Y Y Y Y ?_ | refine r_cv_i64 hG Y Y Y Y Y (by omega) ?_ | refine Ca hG Y Y Y Y Y (by omega) ?_ | refine r_cvw hG Y Y Y Y Y ?_)
      | refine Bc hG Y Y Y ?_
      | refine Bn hG Y Y Y ?_
      | (show AOp _ _ ⟨_, .buildSlice _ _ _, _, _, _, _⟩ _ _ _; first | refine r_mk (sz := 1) hG Y Y Y Y Y Y Y ?_)
      | (show AOp _ _ ⟨_, .call ⟨.value _, _, _⟩, _, _, _, _⟩ _ _ _; first | refine r_onS Y Y Y Y hI.1 hI.2 ?_ | fail)
      | refine r_q hG Y Y Y ?_); try exact kk)
    | (show AL _ _ _ _ _ _ _ _; first | refine Bj Y Y Y ?_ | (refine Ar ?_; first | show AW _ _ _ _ _ _ | show ∃ x', _ < _ ∧ _)) | (show AW _ _ (.seq _ _) _ _ _; refine Ah ?_; intro Q1) | (show AW _ _ (.region _ _ false) _ _ _; refine Ad ?_; intro O1) | (show AW _ _ (.cond _ _ _) _ _ _; first | refine Ao Y ?_ | refine Ap Y ?_ | refine Bf Y (fun h => ?_) (fun h => ?_)) | (show AW _ _ (.skip) _ _ _; refine Aj ?_; first | show AW _ _ _ _ _ _ | show ∃ x', _ < _ ∧ _) | (show AW _ _ (.block _ _) _ _ _; refine Af ?_; intro Q1) | (show AW _ _ (.exit _) _ _ _; refine As ?_; first | show AW _ _ _ _ _ _ | show ∃ x', _ < _ ∧ _) | (show AW _ _ (.ret) _ _ _; refine Av ?_; try dsimp only [A3, Ac, A7, Ag])
    | (show DL _ _ _ _ _ _ _; refine Bt Y Y (fun K kt kf => Am hG Y Y Y Y Y kt kf) (fun h => ?_) (fun h => ?_)) | (show DL _ _ _ _ _ _ _; refine Bt Y Y (fun K kt kf => r_str hG Y Y Y Y kt kf) (fun h => ?_) (fun h => ?_)) | (show DL _ _ _ _ _ _ _; refine dl_ne Y Y (fun K kt kf => r_strn hG Y Y Y Y kt kf) (fun h => ?_) (fun h => ?_))
    | (show DL _ _ _ _ _ _ _; refine Bu Y Y Y ?_) | (show DL _ _ _ _ _ _ _; refine Bd ?_; first | show AW _ _ _ _ _ _ | show ∃ x', _ < _ ∧ _) | (show AW _ _ (.region _ _ true) _ _ _; refine Aw mix (by kernel_rfl) ?_; intro O1) | fail)
    refine aw_loop (X := OsX ids) (fun x => [(5, .ptr pa 0), (6, .ptr pb 0), (11, .sl 1 .no (ids.map mT)), (12, .int .i64 (x.i : Int))]) (fun x => ⟨arL 1 lb ab pb rb mb ++ arL 1 la aa pa ra ma, [], off, none⟩) (fun x => ids.length - x.i) ⟨1, Nat.le_refl _, by omega⟩ (by repeat (first | exact .nil _ | refine .cons rfl ?_)) (.refl _) ?_
    rintro ⟨i, h1, hi⟩
    dsimp only
    by_cases hil : i < ids.length
    · have hlt : ((ids.getD (i - 1) default : Nat) : Int) < ((ids.getD i default : Nat) : Int) := by
        have := List.pairwise_iff_getElem.1 hup (i - 1) i (by omega) hil (by omega)
        simp only [List.getD, List.getElem?_eq_getElem hil, List.getElem?_eq_getElem (show i - 1 < ids.length by omega), Option.getD_some]
        omega
      repeat' (first
    | ((first | (show AL _ _ _ _ _ _ _ _; refine Ae Y ?_) | (show DL _ _ _ _ _ _ _; refine' A6 Y Y (fun K kk => ?_) ?_; try (show Go.Ts.T; rotate_left))); (first
      | refine Aq hG Y Y ?_
      | refine A5 hG Y Y ?_
      | (show AOp _ _ ⟨_, .call ⟨.builtin .len, _, _⟩, _, _, _, _⟩ _ _ _; first | refine Br hG Y Y Y Y ?_ | refine Bx hG Y Y Y Y Y ?_)
      | (show AOp _ _ ⟨_, .binOp .add _ _ _ _, _, _, _, _⟩ _ _ _; first | refine Ab hG Y Y Y Y Y (by omega) ?_ | refine Ab (m := 1) hG Y Y Y Y Y (by omega) ?_ | refine Aa hG Y Y Y Y Y (by omega) ?_)
      | (show AOp _ _ ⟨_, .binOp .sub _ _ _ _, _, _, _, _⟩ _ _ _; first | refine Al hG Y Y Y Y (by omega) ?_ | refine Al (m := 1) hG Y Y Y Y (by omega) ?_ | refine r_subU (m := 1) hG Y Y Y Y (by omega) ?_ | refine Aa hG Y Y Y Y Y (by omega) ?_)
      | (show AOp _ _ ⟨_, .binOp .mul _ _ _ _, _, _, _, _⟩ _ _ _; first | refine Ab hG Y Y Y Y Y (by omega) ?_ | refine Ab (m := 1) hG Y Y Y Y Y (by omega) ?_ | refine Ab (m := 2) hG Y Y Y Y Y (by omega) ?_ | refine Ab (m := 3) hG Y Y Y Y Y (by omega) ?_ | refine Ab (n := 2) hG Y Y Y Y Y (by omega) ?_ | refine Aa hG Y Y Y Y Y (by omega) ?_)
      | (show AOp _ _ ⟨_, .binOp .rem _ _ _ _, _, _, _, _⟩ _ _ _; first | refine r_rem hG Y Y Y Y (by omega) ?_ | refine r_trem hG Y Y Y Y (by omega) ?_)
      | (show AOp _ _ ⟨_, .binOp _ _ _ _ _, _, _, _, _⟩ _ _ _; first | refine Au hG Y Y Y Y Y (by omega) ?_ | refine At hG Y Y Y Y Y (by omega) ?_ | refine r_strT hG Y Y Y Y (by first | rfl | assumption) ?_ | refine r_strnF hG Y Y Y Y (by first | rfl | assumption) ?_ | refine r_strF hG Y Y Y Y (by assumption) ?_ | refine r_strnT hG Y Y Y Y (by assumption) ?_ | ((fail_if_success have := kk); refine Am hG Y Y Y Y Y (fun h => ?_) (fun h => ?_)) | ((fail_if_success have := kk); first | refine r_str hG Y Y Y Y (fun h => ?_) (fun h => ?_) | refine r_strn hG Y Y Y Y (fun h => ?_) (fun h => ?_)) | refine Bv hG Y Y Y Y ?_)
      | (show AOp _ _ ⟨_, .load _ _, _, _, _, _⟩ _ _ _; first | refine A2 0 sbT hG Y Y Y Y Y (by omega) Y ?_ | refine A1 0 sbT hG Y Y Y Y Y (by omega) Y ?_ | refine A2 1 sbT hG Y Y Y Y Y (by omega) Y ?_ | refine A1 1 sbT hG Y Y Y Y Y (by omega) Y ?_ | refine A2 2 sbT hG Y Y Y Y Y (by omega) Y ?_ | refine A1 2 sbT hG Y Y Y Y Y (by omega) Y ?_ | refine A2 3 sbT hG Y Y Y Y Y (by omega) Y ?_ | refine A1 3 sbT hG Y Y Y Y Y (by omega) Y ?_ | refine Ak (α := UInt16) 0 hG Y Y Y Y (by omega) Y ?_ | refine Ak (α := UInt16) 1 hG Y Y Y Y (by omega) Y ?_ | refine Ay hG Y Y Y ?_ | refine A8 0 hG Y Y Y Y ?_)
      | (show AOp _ _ ⟨_, .indexAddr _ _ _, _, _, _, _⟩ _ _ _; first | refine Bw (sz := 4) hG Y Y Y Y Y Y Y (by omega) ?_ | refine A4 hG Y Y Y Y Y Y Y (by omega) ?_ | refine Az hG Y Y Y Y Y Y Y (by omega) ?_ | refine Ax hG Y Y Y Y Y Y Y (by omega) ?_ | refine Bb hG Y Y ?_)
      | (show AOp _ _ ⟨_, .convert _ _ _, _, _, _, _⟩ _ _ _; first | refine r_tostr hG Y Y Y Y Y Y Y Y (by first | exact Ba _ _ | exact Bi _ | rfl) ?_ | refine r_cv8 hG Y Y Y Y Y Y ?_ | refine r_cv_i64 hG Y Y Y Y Y (by omega) ?_ | refine Ca hG Y Y Y Y Y (by omega) ?_ | refine r_cvw hG Y Y Y Y Y ?_)
      | refine Bc hG Y Y Y ?_
      | refine Bn hG Y Y Y ?_
      | (show AOp _ _ ⟨_, .buildSlice _ _ _, _, _, _, _⟩ _ _ _; first | refine r_mk (sz := 1) hG Y Y Y Y Y Y Y ?_)
      | refine r_q hG Y Y Y ?_); try exact kk)
    | (show AL _ _ _ _ _ _ _ _; first | refine Bj Y Y Y ?_ | (refine Ar ?_; first | show AW _ _ _ _ _ _ | show ∃ x', _ < _ ∧ _)) | (show AW _ _ (.seq _ _) _ _ _; refine Ah ?_; intro Q1) | (show AW _ _ (.region _ _ false) _ _ _; refine Ad ?_; intro O1) | (show AW _ _ (.cond _ _ _) _ _ _; first | refine Ao Y ?_ | refine Ap Y ?_ | refine Bf Y (fun h => ?_) (fun h => ?_)) | (show AW _ _ (.skip) _ _ _; refine Aj ?_; first | show AW _ _ _ _ _ _ | show ∃ x', _ < _ ∧ _) | (show AW _ _ (.block _ _) _ _ _; refine Af ?_; intro Q1) | (show AW _ _ (.exit _) _ _ _; refine As ?_; first | show AW _ _ _ _ _ _ | show ∃ x', _ < _ ∧ _) | (show AW _ _ (.ret) _ _ _; refine Av ?_; try dsimp only [A3, Ac, A7, Ag])
    | (show DL _ _ _ _ _ _ _; refine Bt Y Y (fun K kt kf => Am hG Y Y Y Y Y kt kf) (fun h => ?_) (fun h => ?_)) | (show DL _ _ _ _ _ _ _; refine Bt Y Y (fun K kt kf => r_str hG Y Y Y Y kt kf) (fun h => ?_) (fun h => ?_)) | (show DL _ _ _ _ _ _ _; refine dl_ne Y Y (fun K kt kf => r_strn hG Y Y Y Y kt kf) (fun h => ?_) (fun h => ?_))
    | (show DL _ _ _ _ _ _ _; refine Bu Y Y Y ?_) | (show DL _ _ _ _ _ _ _; refine Bd ?_; first | show AW _ _ _ _ _ _ | show ∃ x', _ < _ ∧ _) | (show AW _ _ (.region _ _ true) _ _ _; refine Aw mix (by kernel_rfl) ?_; intro O1) | fail)
      exact ⟨⟨i + 1, by omega, by omega⟩, by dsimp only; omega, (by repeat (first | exact .nil _ | refine .cons rfl ?_)), .refl _⟩
    · have hsz2 : (sz : Int) = 2 * (ids.length : Int) := by omega
      repeat' (first
    | ((first | (show AL _ _ _ _ _ _ _ _; refine Ae Y ?_) | (show DL _ _ _ _ _ _ _; refine' A6 Y Y (fun K kk => ?_) ?_; try (show Go.Ts.T; rotate_left))); (first
      | refine Aq hG Y Y ?_
      | refine A5 hG Y Y ?_
      | (show AOp _ _ ⟨_, .call ⟨.builtin .len, _, _⟩, _, _, _, _⟩ _ _ _; first | refine Br hG Y Y Y Y ?_ | refine Bx hG Y Y Y Y Y ?_)
      | (show AOp _ _ ⟨_, .binOp .add _ _ _ _, _, _, _, _⟩ _ _ _; first | refine Ab hG Y Y Y Y Y (by omega) ?_ | refine Ab (m := 1) hG Y Y Y Y Y (by omega) ?_ | refine Aa hG Y Y Y Y Y (by omega) ?_)
      | (show AOp _ _ ⟨_, .binOp .sub _ _ _ _, _, _, _, _⟩ _ _ _; first | refine Al hG Y Y Y Y (by omega) ?_ | refine Al (m := 1) hG Y Y Y Y (by omega) ?_ | refine r_subU (m := 1) hG Y Y Y Y (by omega) ?_ | refine Aa hG Y Y Y Y Y (by omega) ?_)
      | (show AOp _ _ ⟨_, .binOp .mul _ _ _ _, _, _, _, _⟩ _ _ _; first | refine Ab hG Y Y Y Y Y (by omega) ?_ | refine Ab (m := 1) hG Y Y Y Y Y (by omega) ?_ | refine Ab (m := 2) hG Y Y Y Y Y (by omega) ?_ | refine Ab (m := 3) hG Y Y Y Y Y (by omega) ?_ | refine Ab (n := 2) hG Y Y Y Y Y (by omega) ?_ | refine Aa hG Y Y Y Y Y (by omega) ?_)
      | (show AOp _ _ ⟨_, .binOp .rem _ _ _ _, _, _, _, _⟩ _ _ _; first | refine r_rem hG Y Y Y Y (by omega) ?_ | refine r_trem hG Y Y Y Y (by omega) ?_)
      | (show AOp _ _ ⟨_, .binOp _ _ _ _ _, _, _, _, _⟩ _ _ _; first | refine Au hG Y Y Y Y Y (by omega) ?_ | refine At hG Y Y Y Y Y (by omega) ?_ | refine r_strT hG Y Y Y Y (by first | rfl | assumption) ?_ | refine r_strnF hG Y Y Y Y (by first | rfl | assumption) ?_ | refine r_strF hG Y Y Y Y (by assumption) ?_ | refine r_strnT hG Y Y Y Y (by assumption) ?_ | ((fail_if_success have := kk); refine Am hG Y Y Y Y Y (fun h => ?_) (fun h => ?_)) | ((fail_if_success have := kk); first | refine r_str hG Y Y Y Y (fun h => ?_) (fun h => ?_) | refine r_strn hG Y Y Y Y (fun h => ?_) (fun h => ?_)) | refine Bv hG Y Y Y Y ?_)
      | (show AOp _ _ ⟨_, .load _ _, _, _, _, _⟩ _ _ _; first | refine A2 0 sbT hG Y Y Y Y Y (by omega) Y ?_ | refine A1 0 sbT hG Y Y Y Y Y (by omega) Y ?_ | refine A2 1 sbT hG Y Y Y Y Y (by omega) Y ?_ | refine A1 1 sbT hG Y Y Y Y Y (by omega) Y ?_ | refine A2 2 sbT hG Y Y Y Y Y (by omega) Y ?_ | refine A1 2 sbT hG Y Y Y Y Y (by omega) Y ?_ | refine A2 3 sbT hG Y Y Y Y Y (by omega) Y ?_ | refine A1 3 sbT hG Y Y Y Y Y (by omega) Y ?_ | refine Ak (α := UInt16) 0 hG Y Y Y Y (by omega) Y ?_ | refine Ak (α := UInt16) 1 hG Y Y Y Y (by omega) Y ?_ | refine Ay hG Y Y Y ?_ | refine A8 0 hG Y Y Y Y ?_)
      | (show AOp _ _ ⟨_, .indexAddr _ _ _, _, _, _, _⟩ _ _ _; first | refine Bw (sz := 4) hG Y Y Y Y Y Y Y (by omega) ?_ | refine A4 hG Y Y Y Y Y Y Y (by omega) ?_ | refine Az hG Y Y Y Y Y Y Y (by omega) ?_ | refine Ax hG Y Y Y Y Y Y Y (by omega) ?_ | refine Bb hG Y Y ?_)
      | (show AOp _ _ ⟨_, .convert _ _ _, _, _, _, _⟩ _ _ _; first | refine r_tostr hG Y Y Y Y Y Y Y Y (by first | exact Ba _ _ | exact Bi _ | rfl) ?_ | refine r_cv8 hG Y Y Y Y Y Y ?_ | refine r_cv_i64 hG Y Y Y Y Y (by omega) ?_ | refine Ca hG Y Y Y Y Y (by omega) ?_ | refine r_cvw hG Y Y Y Y Y ?_)
      | refine Bc hG Y Y Y ?_
      | refine Bn hG Y Y Y ?_
      | (show AOp _ _ ⟨_, .buildSlice _ _ _, _, _, _, _⟩ _ _ _; first | refine r_mk (sz := 1) hG Y Y Y Y Y Y Y ?_)
      | (show AOp _ _ ⟨_, .call ⟨.value _, _, _⟩, _, _, _, _⟩ _ _ _; first | refine r_onS Y Y Y Y hBa.1 hBa.2 ?_ | refine r_onS Y Y Y Y hBb.1 hBb.2 ?_ | refine r_onS Y Y Y Y hS.1 hS.2 ?_ | fail)
      | refine r_q hG Y Y Y ?_); try exact kk)
    | (show AL _ _ _ _ _ _ _ _; first | refine Bj Y Y Y ?_ | (refine Ar ?_; first | show AW _ _ _ _ _ _ | show ∃ x', _ < _ ∧ _)) | (show AW _ _ (.seq _ _) _ _ _; refine Ah ?_; intro Q1) | (show AW _ _ (.region _ _ false) _ _ _; refine Ad ?_; intro O1) | (show AW _ _ (.cond _ _ _) _ _ _; first | refine Ao Y ?_ | refine Ap Y ?_ | refine Bf Y (fun h => ?_) (fun h => ?_)) | (show AW _ _ (.skip) _ _ _; refine Aj ?_; first | show AW _ _ _ _ _ _ | show ∃ x', _ < _ ∧ _) | (show AW _ _ (.block _ _) _ _ _; refine Af ?_; intro Q1) | (show AW _ _ (.exit _) _ _ _; refine As ?_; first | show AW _ _ _ _ _ _ | show ∃ x', _ < _ ∧ _) | (show AW _ _ (.ret) _ _ _; refine Av ?_; try dsimp only [A3, Ac, A7, Ag])
    | (show DL _ _ _ _ _ _ _; refine Bt Y Y (fun K kt kf => Am hG Y Y Y Y Y kt kf) (fun h => ?_) (fun h => ?_)) | (show DL _ _ _ _ _ _ _; refine Bt Y Y (fun K kt kf => r_str hG Y Y Y Y kt kf) (fun h => ?_) (fun h => ?_)) | (show DL _ _ _ _ _ _ _; refine dl_ne Y Y (fun K kt kf => r_strn hG Y Y Y Y kt kf) (fun h => ?_) (fun h => ?_))
    | (show DL _ _ _ _ _ _ _; refine Bu Y Y Y ?_) | (show DL _ _ _ _ _ _ _; refine Bd ?_; first | show AW _ _ _ _ _ _ | show ∃ x', _ < _ ∧ _) | (show AW _ _ (.region _ _ true) _ _ _; refine Aw mix (by kernel_rfl) ?_; intro O1) | fail)
      exact ret_pure (Bq rfl Bo) (.refl _) rfl
theorem arenaOrder_law (_W : World) (x : T) (tx : ArgTy G 6 22 x) (n : Int) (wn : (Lit.int .u8 n).wf = true) : ACalls Try.prog 8 [x, .int .u8 n] σ0 (fun r _ => r = .bool true) := by
  obtain ⟨ls, rfl, hl⟩ := argTy_bytes (n := 4) tx rfl rfl rfl rfl rfl
  have u := wf_u8 wn
  have e : T.int .u8 n = bT (UInt8.ofNat n.toNat) := by
    unfold bT
    congr 1
    have : (UInt8.ofNat n.toNat).toNat = n.toNat := by simp [UInt8.toNat_ofNat]; omega
    omega
  rw [e]
  exact (arenaOrder_pure hl (fun _ _ => False)).mono fun _ _ h => h.1
end Go.Proofs.Ythfgocinlbogeaa
